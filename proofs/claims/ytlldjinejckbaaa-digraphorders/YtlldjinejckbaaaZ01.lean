/- The law DigraphOrders of package digraph holds for every input: what it is called with is opened, the printed text of the law and its plain proof are joined. (Part 2 of 5 of its proof.) -/
import Derived.Test.YtlldjinejckbaaaProg
import Derived.Below
import Derived.Deep.Draws
import Derived.Deep.AppendLies
import Derived.Maps.AppendAt
import Derived.OwnWalk
import Derived.Laws.BytesArg
import Derived.Laws.MakeOwn
import Derived.Laws.OwnMore
import Derived.Deep.OwnRows
import Derived.Tactics
import Derived.Laws.Slices
import Derived.WalkKit
import Derived.KernelRfl
import Derived.RowKit3
import Derived.Deep.LoopGhost
import Derived.Deep.QuietTactic
import Derived.BigQuiet
import Derived.WideLaws
import Derived.Deep.DeepCutAuto
import Derived.Deep.CutBlock
import Derived.Deep.RegionHeld3
import Derived.Laws.Rows
import Derived.ArgAppend
import Derived.Laws.IdiomCopy
import Derived.OrdersHeld
import Derived.Laws.BitsLemmas
import Derived.RowKit
import Derived.Outline
import Derived.Lib.Hide
import Derived.RegionTactic
import Derived.Maps.OwnIn
import Derived.Shelf.SlicesE.IndexFunc
import Derived.Ground.SlgfProg
import Derived.Shelf.Spec.SlicesInsert
import Derived.Shelf.Spec.SlicesInsertGrow
import Derived.Ground.Names2Prog
import Derived.Shelf.SlicesQ.IndexFunc
import Derived.Lib.SlBy
import Derived.Lib.Slices
import Derived.Test.YtlldjinejckbaaaZ00
set_option linter.unusedVariables false
set_option linter.unusedSimpArgs false
section
namespace Go.Proofs.Ytlldjinejckbaaa.Ng
open Go Go.RowKit Go.Proofs.YtlldjinejckbaaaW.PrintWords Go.Proofs.YtlldjinejckbaaaW.PrintLast Go.Proofs.YtlldjinejckbaaaW.PrintMore
open Go.Proofs.Ytlldjinejckbaaa.It Go.Proofs.Ytlldjinejckbaaa.Gs Go.Proofs.Ytlldjinejckbaaa.Lb Go.Proofs.Ytlldjinejckbaaa.PD
set_option linter.unusedVariables false
set_option linter.unusedSimpArgs false
theorem info26 : (Try.prog.info? 26).map (fun i => (i.zero, i.size, i.bytes)) = some (some (.slice none 0 0), 1, 24) := by kernel_rfl
def addE (R : Bool → List (List Int)) (e : S55) : Bool → List (List Int) :=
 upd (upd R true e.f0.toNat ((R true).getD e.f0.toNat [] ++ [e.f1])) false e.f1.toNat ((R false).getD e.f1.toNat [] ++ [e.f0])
def built (n : Nat) (l : List S55) : Bool → List (List Int) := l.foldl addE (fun _ => List.replicate n [])
def tidy (rows : List (List Int)) : List (List Int) := rows.map fun r => Lib.compact (sortI r)
structure St (w wc : World) (gb n : Nat) (G : Bool → Nat) (V : Bool → List Value) (R : Bool → List (List Int)) : Prop where
 gs : GS wc w.heap.size n G V R
 hg : wc.heap[gb]? = some (.cells #[.slice (some ⟨G true, 0, none⟩) n n, .slice (some ⟨G false, 0, none⟩) n n] 73 (0, 0))
 hr : wc.heap[w.heap.size]? = some (.cells #[.slice none 0 0, .slice none 0 0] 73 (0, 0))
 be : Below w.heap.size w wc
 gbb : w.heap.size < gb
theorem St.alloc {w wc : World} {gb n : Nat} {G : Bool → Nat} {V : Bool → List Value} {R : Bool → List (List Int)} (h : St w wc gb n G V R) (o : Obj) : St w (wc.alloc o) gb n G V R :=
 ⟨h.gs.below (below_alloc (Below.refl _ _) o), blk_alloc h.hg o, blk_alloc h.hr o, below_alloc h.be o, h.gbb⟩
theorem St.cellg {w wc : World} {gb n : Nat} {G : Bool → Nat} {V : Bool → List Value} {R : Bool → List (List Int)} (h : St w wc gb n G V R) (b : Bool) : wc.cell? ⟨gb, if b then 0 else 1, none⟩ = some (.slice (some ⟨G b, 0, none⟩) n n) := by
 cases b
 ·exact (blk_cell h.hg 1).trans rfl
 ·exact (blk_cell h.hg 0).trans rfl
theorem St.cellr {w wc : World} {gb n : Nat} {G : Bool → Nat} {V : Bool → List Value} {R : Bool → List (List Int)} (h : St w wc gb n G V R) (b : Bool) (i : Nat) (hi : i < n) : wc.cell? ⟨G b, i, none⟩ = some ((V b).getD i nilv) := by
 rw [blk_cell (h.gs.blk b) i, List.getElem?_toArray, List.getD_eq_getElem?_getD, List.getElem?_eq_getElem (by rw [h.gs.lv]; exact hi)]
 rfl
theorem frozen_far {W w1 : World} {row : Option Nat} (hg : W.grownBy w1 row) (a : Addr) (h : a.block < W.heap.size) (hne : some a.block ≠ row) : w1.frozen? a = W.frozen? a := World.frozen?_of_block (hg.block _ h hne)
theorem St.drew {w wc : World} {gb n : Nat} {G : Bool → Nat} {V : Bool → List Value} {R : Bool → List (List Int)} (h : St w wc gb n G V R) : St w wc.drew gb n G V R :=
 ⟨h.gs.heap rfl, h.hg, h.hr, below_drew h.be, h.gbb⟩
theorem St.put {w W w1 : World} {gb n : Nat} {G : Bool → Nat} {V : Bool → List Value} {R : Bool → List (List Int)} (h : St w W gb n G V R) (b : Bool) (i : Nat) (hi : i < n) {v1 : Value} {r1 : List Int} (hg : W.grownBy w1 ((V b).getD i nilv).ownBlock) (hr : RowI w1 w.heap.size v1 r1)
  (hat : v1.ownBlock = ((V b).getD i nilv).ownBlock ∨ ∃ k, v1.ownBlock = some k ∧ W.heap.size ≤ k) (hone : v1.oneCell' = true) : St w (w1.setCell ⟨G b, i, none⟩ v1) gb n G (upd V b i v1) (upd R b i r1) := by
 have hold := h.gs.rows b i hi
 refine ⟨h.gs.put b i hi hg hr hat hone, blk_far (blk_grown h.hg hg (fun e => rowi_ne hold h.hg (by decide) e.symm)) (blk_ne h.hg (h.gs.blk b) (by decide)) _, blk_far (blk_grown h.hr hg (fun e => rowi_ne hold h.hr (by decide) e.symm)) (blk_ne h.hr (h.gs.blk b) (by decide)) _,
  (h.be.grown hg h.be.size (fun k e => Kd.R_base hold k e)).setCell (h.gs.ge b) _, h.gbb⟩
theorem upd_len (V : Bool → List (List Int)) (b : Bool) (i : Nat) (x : List Int) (B : Nat) (h1 : x.length ≤ B) (h2 : ∀ c j, ((V c).getD j []).length ≤ B) (c : Bool) (j : Nat) : ((upd V b i x c).getD j []).length ≤ B := by
 unfold upd
 split
 ·rw [List.getD_eq_getElem?_getD, List.getElem?_set]
  split
  ·split
   ·exact h1
   ·simp
  ·exact h2 c j
 ·exact h2 c j
theorem St.turn {w W w1 : World} {gb n : Nat} {G : Bool → Nat} {V : Bool → List Value} {R : Bool → List (List Int)} (h : St w W gb n G V R) (b : Bool) (i : Nat) (hi : i < n) {r1 : List Int} (hg : W.grownBy w1 ((V b).getD i nilv).ownBlock) (hr : RowI w1 w.heap.size ((V b).getD i nilv) r1) : St w w1 gb n G V (upd R b i r1) := by
 have hold := h.gs.rows b i hi
 have hGw : ∀ c, w1.heap[G c]? = some (.cells (V c).toArray 26 (0, 0)) := fun c => blk_grown (h.gs.blk c) hg (fun e => rowi_ne hold (h.gs.blk c) (by decide) e.symm)
 refine ⟨⟨hGw, h.gs.ge, h.gs.lv, fun c => by rw [upd_length]; exact h.gs.lr c, h.gs.ne, fun c j hj => ?_, h.gs.ap⟩, blk_grown h.hg hg (fun e => rowi_ne hold h.hg (by decide) e.symm), blk_grown h.hr hg (fun e => rowi_ne hold h.hr (by decide) e.symm), h.be.grown hg h.be.size (fun k e => Kd.R_base hold k e), h.gbb⟩
 by_cases e : c = b
 ·subst e
  rw [upd_same, getD_set _ _ _ _ _ (by rw [h.gs.lr]; exact hj)]
  by_cases e : i = j
  ·subst e; rw [if_pos rfl]; exact hr
  ·rw [if_neg e]
   exact (h.gs.rows c j hj).move (fun k hk => hg.block k (Kd.R_lt (h.gs.rows c j hj) k hk) (fun x => h.gs.ap c i c j hi hj (.inr e) k x.symm hk))
 ·rw [upd_other R i r1 e]
  exact (h.gs.rows c j hj).move (fun k hk => hg.block k (Kd.R_lt (h.gs.rows c j hj) k hk) (fun x => h.gs.ap b i c j hi hj (.inl (fun y => e y.symm)) k x.symm hk))
def Part (lo : Nat) (wK w' : World) : Prop := ∀ a v, wK.cell? a = some v → lo ≤ a.block ∧ a.block < w'.heap.size ∧ w'.cell? a = some v
def mask (lo : Nat) (w : World) : World := { w with heap := w.heap.mapIdx fun k o => if k < lo then .deferred none else o }
theorem mask_heap (lo : Nat) (w : World) (k : Nat) (h : lo ≤ k) : (mask lo w).heap[k]? = w.heap[k]? := by
 show (w.heap.mapIdx _)[k]? = _
 rw [Array.getElem?_mapIdx]
 cases w.heap[k]? with
 | none => rfl
 | some o => simp [Nat.not_lt.2 h]
theorem mask_part (lo : Nat) (w : World) : Part lo (mask lo w) w := fun a v h => by
 have hb := World.block_lt_of_cell? _ _ h
 have hz : (mask lo w).heap.size = w.heap.size := by show (w.heap.mapIdx _).size = _; simp
 by_cases hlo : lo ≤ a.block
 ·exact ⟨hlo, by omega, (World.cell?_of_block (mask_heap lo w _ hlo)).symm.trans h⟩
 ·exfalso
  have e : (mask lo w).heap[a.block]? = some (.deferred none) := by
   show (w.heap.mapIdx _)[a.block]? = _
   rw [Array.getElem?_mapIdx, Array.getElem?_eq_getElem (by omega)]
   simp; omega
  unfold World.cell? at h
  rw [e] at h
  simp at h
theorem St.finish {w W : World} {gb n : Nat} {G : Bool → Nat} {V : Bool → List Value} {R : Bool → List (List Int)} (h : St w W gb n G V R) (hn : n ≤ 1000000) :
  ((W.setCell ⟨w.heap.size, 0, none⟩ (.slice (some ⟨G true, 0, none⟩) n n)).setCell ⟨w.heap.size, 1, none⟩ (.slice (some ⟨G false, 0, none⟩) n n)).heap[w.heap.size]? = some (.cells #[.slice (some ⟨G true, 0, none⟩) n n, .slice (some ⟨G false, 0, none⟩) n n] 73 (0, 0)) ∧
  (∃ wK, Part w.heap.size wK ((W.setCell ⟨w.heap.size, 0, none⟩ (.slice (some ⟨G true, 0, none⟩) n n)).setCell ⟨w.heap.size, 1, none⟩ (.slice (some ⟨G false, 0, none⟩) n n)) ∧ ∀ b, Kd.C KR wK (some ⟨G b, 0, none⟩) n (R b)) ∧
  Below w.heap.size w ((W.setCell ⟨w.heap.size, 0, none⟩ (.slice (some ⟨G true, 0, none⟩) n n)).setCell ⟨w.heap.size, 1, none⟩ (.slice (some ⟨G false, 0, none⟩) n n)) := by
 refine ⟨blk_set (blk_set h.hr 0 _) 1 _, ⟨_, mask_part _ _, fun b => GS.reads (h.gs.move (fun k cs t ht hk hge => ?_)) hn b⟩, (h.be.setCell (Nat.le_refl _) _).setCell (Nat.le_refl _) _⟩
 have hne : k ≠ w.heap.size := blk_ne hk h.hr (by rcases ht with rfl | rfl <;> decide)
 rw [mask_heap _ _ _ hge, Below.heap_setCell _ _ _ _ hne, Below.heap_setCell _ _ _ _ hne]
theorem addE_length (R : Bool → List (List Int)) (e : S55) (b : Bool) : (addE R e b).length = (R b).length := by unfold addE; rw [upd_length, upd_length]
theorem built_length (n : Nat) (l : List S55) (b : Bool) : (built n l b).length = n := by
 unfold built
 have : ∀ (l : List S55) (R : Bool → List (List Int)), (l.foldl addE R b).length = (R b).length := fun l => by
  induction l with
  | nil => intro R; rfl
  | cons e l ih => intro R; rw [List.foldl_cons, ih, addE_length]
 rw [this]; simp
theorem tidy_at (B : List (List Int)) (i : Nat) (j : List (List Int)) (h : i < B.length) : ((tidy B).take i ++ B.drop i).getD i [] = B.getD i [] := by
 have hl : ((tidy B).take i).length = i := by simp [tidy]; omega
 rw [List.getD_eq_getElem?_getD, List.getElem?_append_right (by omega), hl, Nat.sub_self, List.getElem?_drop, Nat.add_zero, List.getD_eq_getElem?_getD]
theorem tidy_step (B : List (List Int)) (i : Nat) (h : i < B.length) : ((tidy B).take i ++ B.drop i).set i (Lib.compact (sortI (B.getD i []))) = (tidy B).take (i + 1) ++ B.drop (i + 1) := by
 have hl : ((tidy B).take i).length = i := by simp [tidy]; omega
 have ht : i < (tidy B).length := by simp [tidy]; exact h
 rw [List.set_append_right _ _ (by omega), hl, Nat.sub_self, List.drop_eq_getElem_cons h, List.set_cons_zero, List.take_succ_eq_append_getElem ht, List.append_assoc, List.singleton_append]
 congr 2
 simp [tidy, List.getD_eq_getElem?_getD, List.getElem?_eq_getElem h]
theorem alloc4 (w : World) (o1 o2 o3 o4 : Obj) : ((((w.alloc o1).alloc o2).alloc o3).alloc o4).drew.heap[w.heap.size]? = some o1 ∧ ((((w.alloc o1).alloc o2).alloc o3).alloc o4).drew.heap[w.heap.size + 1]? = some o2 ∧
  ((((w.alloc o1).alloc o2).alloc o3).alloc o4).drew.heap[w.heap.size + 1 + 1]? = some o3 ∧ ((((w.alloc o1).alloc o2).alloc o3).alloc o4).drew.heap[w.heap.size + 1 + 1 + 1]? = some o4 ∧ Below w.heap.size w ((((w.alloc o1).alloc o2).alloc o3).alloc o4).drew := by
 have e : ((((w.alloc o1).alloc o2).alloc o3).alloc o4).drew.heap = (((w.heap.push o1).push o2).push o3).push o4 := rfl
 rw [e]
 refine ⟨?_, ?_, ?_, ?_, below_drew (below_alloc (below_alloc (below_alloc (below_alloc (Below.refl _ _) _) _) _) _)⟩
 ·rw [Array.getElem?_push, if_neg (by simp <;> omega), Array.getElem?_push, if_neg (by simp <;> omega), Array.getElem?_push, if_neg (by simp <;> omega), Array.getElem?_push, if_pos rfl]
 ·rw [Array.getElem?_push, if_neg (by simp), Array.getElem?_push, if_neg (by simp), Array.getElem?_push, if_pos (by simp)]
 ·rw [Array.getElem?_push, if_neg (by simp), Array.getElem?_push, if_pos (by simp)]
 ·rw [Array.getElem?_push, if_pos (by simp)]
theorem st_start {w wc : World} {gb n : Nat} {g1 g2 : Nat} (h1 : wc.heap[g1]? = some (.cells (madeCells #[.slice none 0 0] n) 26 (0, 0))) (h2 : wc.heap[g2]? = some (.cells (madeCells #[.slice none 0 0] n) 26 (0, 0))) (hne : g1 ≠ g2) (hb1 : w.heap.size ≤ g1) (hb2 : w.heap.size ≤ g2)
  (hg : wc.heap[gb]? = some (.cells #[.slice (some ⟨g1, 0, none⟩) n n, .slice (some ⟨g2, 0, none⟩) n n] 73 (0, 0))) (hr : wc.heap[w.heap.size]? = some (.cells #[.slice none 0 0, .slice none 0 0] 73 (0, 0))) (be : Below w.heap.size w wc) (hgb : w.heap.size < gb) :
  St w wc gb n (fun b => if b then g1 else g2) (fun _ => List.replicate n nilv) (fun _ => List.replicate n []) := by
 have hm : madeCells #[(.slice none 0 0 : Value)] n = (List.replicate n nilv).toArray := by
  apply Array.ext
  ·simp [madeCells]
  ·intro i h1 h2
   simp [madeCells, Nat.mod_one]
 have hd : ∀ i, i < n → (List.replicate n nilv).getD i nilv = nilv := fun i hi => by simp [List.getD_eq_getElem?_getD, hi]
 have hd2 : ∀ i, i < n → (List.replicate n ([] : List Int)).getD i [] = [] := fun i hi => by simp [List.getD_eq_getElem?_getD, hi]
 refine ⟨⟨fun b => ?_, fun b => ?_, fun b => by simp, fun b => by simp, fun b c h => ?_, fun b i hi => ?_, fun b i c j hi hj _ => ?_⟩, hg, hr, be, hgb⟩
 ·rw [← hm]; cases b
  ·exact h2
  ·exact h1
 ·cases b
  ·exact hb2
  ·exact hb1
 ·cases b <;> cases c
  ·exact absurd rfl h
  ·exact hne.symm
  ·exact hne
  ·exact absurd rfl h
 ·rw [hd i hi, hd2 i hi]; exact RowI.of (Kd.R_nil KI 3 wc w.heap.size (fun _ => True))
 ·intro k hk
  rw [hd i hi] at hk
  simp [Value.ownBlock] at hk
def ng.T5 : Bool × List (List Nat × List Nat) := (true, [([], []), ([0], [0]), ([], []), ([2], [2]), ([], []), ([4], [4]), ([], []), ([6], [6]), ([5, 7], [5, 7]), ([8], [8]), ([], []), ([10], [10]), ([11], [11]), ([9, 12], [9, 12]), ([1, 3, 0, 1, 2, 3, 4, 5, 6, 7, 8, 9, 10, 11, 12, 13], [1, 3]), ([14, 13, 13, 0, 1, 2, 3, 4, 5, 6, 7, 8, 9, 10, 11, 12, 13], [13, 14])])
def ng.B5 : List Nat := [0, 1, 0, 4, 0, 16, 0, 64, 240, 496, 0, 1024, 3072, 8176, 16383, 32767]
theorem ng.tab5 : rtab .any (opsOf Try.f44 5) = ng.T5 := by kernel_rfl
theorem ng.bits5 : waitsOk ng.T5.2 ng.B5 = true := by kernel_rfl
def ng.T6 : Bool × List (List Nat × List Nat) := (true, [([], []), ([0], [0]), ([], []), ([2], [2]), ([], []), ([4], [4]), ([], []), ([6], [6]), ([5, 7], [5, 7]), ([8], [8]), ([], []), ([10], [10]), ([11], [11]), ([9, 12], [9, 12]), ([1, 3, 0, 1, 2, 3, 4, 5, 6, 7, 8, 9, 10, 11, 12, 13], [1, 3]), ([14, 13, 13, 0, 1, 2, 3, 4, 5, 6, 7, 8, 9, 10, 11, 12, 13], [13, 14])])
def ng.B6 : List Nat := [0, 1, 0, 4, 0, 16, 0, 64, 240, 496, 0, 1024, 3072, 8176, 16383, 32767]
theorem ng.tab6 : rtab .any (opsOf Try.f44 6) = ng.T6 := by kernel_rfl
theorem ng.bits6 : waitsOk ng.T6.2 ng.B6 = true := by kernel_rfl
def ng.T12 : Bool × List (List Nat × List Nat) := (true, [([], []), ([0], [0]), ([], []), ([], []), ([3], [3]), ([], []), ([4, 5], [4, 5]), ([6], [6]), ([7], [7]), ([1, 2, 0, 1, 2, 3, 4, 5, 6, 7, 8], [1, 2]), ([9, 8, 8, 0, 1, 2, 3, 4, 5, 6, 7, 8], [8, 9])])
def ng.B12 : List Nat := [0, 1, 0, 0, 8, 0, 56, 120, 248, 511, 1023]
theorem ng.tab12 : rtab .any (opsOf Try.f44 12) = ng.T12 := by kernel_rfl
theorem ng.bits12 : waitsOk ng.T12.2 ng.B12 = true := by kernel_rfl
def ng.T14 : Bool × List (List Nat × List Nat) := (true, [([], []), ([0], [0]), ([], []), ([], []), ([3], [3]), ([], []), ([4, 5], [4, 5]), ([6], [6]), ([7], [7]), ([1, 2, 0, 1, 2, 3, 4, 5, 6, 7, 8], [1, 2]), ([9, 8, 8, 0, 1, 2, 3, 4, 5, 6, 7, 8], [8, 9])])
def ng.B14 : List Nat := [0, 1, 0, 0, 8, 0, 56, 120, 248, 511, 1023]
theorem ng.tab14 : rtab .any (opsOf Try.f44 14) = ng.T14 := by kernel_rfl
theorem ng.bits14 : waitsOk ng.T14.2 ng.B14 = true := by kernel_rfl
set_option maxHeartbeats 4000000 in
set_option maxRecDepth 100000 in
theorem newGraph_calls (n : Nat) (hn : n ≤ 1000) (A1 : Option Addr) (c1 : Nat) (l1 : List S55) (w : World) (hr1 : Kd.C k55 w A1 l1.length l1) (hc1 : l1.length ≤ c1) (hl : l1.length ≤ 10000)
  (hv : ∀ e ∈ l1, 0 ≤ e.f0 ∧ e.f0 < n ∧ 0 ≤ e.f1 ∧ e.f1 < n) :
  Calls Try.prog 44 #[.int .i64 n, .slice A1 l1.length c1] w fun e w' => ∃ B1 B2 : Nat, e = .returned (.agg #[.slice (some ⟨B1, 0, none⟩) n n, .slice (some ⟨B2, 0, none⟩) n n]) ∧
   (∃ wK, Part w.heap.size wK w' ∧ Kd.C KR wK (some ⟨B1, 0, none⟩) n (tidy (built n l1 true)) ∧ Kd.C KR wK (some ⟨B2, 0, none⟩) n (tidy (built n l1 false))) ∧ Below w.heap.size w w' := by
 have hmk := print_make_int (P := Try.prog) 44 26 (.slice none 0 0) 24 Try.underlying44 info26 rfl (by omega) (n : Int) (by omega) (by simp; omega)
 rw [Int.toNat_natCast] at hmk
 obtain ⟨i0, hi0, hz0, hz1, hz2⟩ := info_parts It.info3
 go_enter Try.func44, Try.ntmps44
 go_upto_region 1 with (fail)
 go_cut [5] (fun v5 wc => ∃ (gb : Nat) (G : Bool → Nat), v5 = .pointer (some ⟨gb, 0, none⟩) ∧ Aside0 (St w wc gb n G (fun _ => List.replicate n nilv) (fun _ => List.replicate n [])))
 case first =>
  go_region
  all_goals
   go_wp2
   go_meet
   case rel =>
    obtain ⟨h0, h1, h2, h3, hb⟩ := alloc4 w _ _ _ _
    first
     | exact ⟨_, _, rfl, ⟨st_start h1 h2 (by omega) (by omega) (by omega) h3 h0 hb (by omega)⟩⟩
     | exact ⟨_, _, rfl, ⟨st_start h2 h1 (by omega) (by omega) (by omega) h3 h0 hb (by omega)⟩⟩
     | exact ⟨_, _, rfl, ⟨st_start h1 h3 (by omega) (by omega) (by omega) h2 h0 hb (by omega)⟩⟩
     | exact ⟨_, _, rfl, ⟨st_start h3 h1 (by omega) (by omega) (by omega) h2 h0 hb (by omega)⟩⟩
     | exact ⟨_, _, rfl, ⟨st_start h2 h3 (by omega) (by omega) (by omega) h1 h0 hb (by omega)⟩⟩
     | exact ⟨_, _, rfl, ⟨st_start h3 h2 (by omega) (by omega) (by omega) h1 h0 hb (by omega)⟩⟩
 case rest =>
  obtain ⟨gb, G, rfl, HS⟩ := hcut
  go_wp2
  go_loopg [16] (l1.length + 1) (fun m v wr => ∃ (i : Nat) (V : Bool → List Value) (R : Bool → List (List Int)), v = .int .i64 i ∧ i ≤ l1.length ∧ l1.length < m + i ∧ Aside0 (St w wr gb n G V R) ∧ Aside0 (R = built n (l1.take i)) ∧ Aside0 (∀ b j, ((R b).getD j []).length ≤ i))
  case atStart => exact ⟨0, _, _, rfl, Nat.zero_le _, by omega, HS, ⟨by rw [List.take_zero]; rfl⟩, ⟨fun b j => by rw [List.getD_eq_getElem?_getD]; cases h : (List.replicate n ([] : List Int))[j]? with
   | none => simp
   | some r => have := List.mem_of_getElem? h; simp at this; simp [this]⟩⟩
  case round =>
   clear HS
   obtain ⟨i, V, R, rfl, hi1, hi2, HS, HR, HLn⟩ := hrel
   by_cases hlt : i < l1.length
   ·obtain ⟨ad, hA, hc0, hc1x⟩ := at_T55 hr1 (i : Int) (by omega) (by omega)
    subst hA
    obtain ⟨hf0, hf1, ht0, ht1⟩ := hv _ (show rd_T55 l1 (i : Int) ∈ l1 by unfold rd_T55; rw [List.getD_eq_getElem?_getD, List.getElem?_eq_getElem (by simpa using hlt)]; exact List.getElem_mem _)
    obtain ⟨ed, hed⟩ : ∃ ed, ed = rd_T55 l1 (i : Int) := ⟨_, rfl⟩
    rw [← hed] at hc0 hc1x hf0 hf1 ht0 ht1
    obtain ⟨f, t⟩ := ed
    dsimp only at hc0 hc1x hf0 hf1 ht0 ht1
    have HED := Aside0.mk hed
    clear hed
    rw [Int.toNat_natCast] at hc0 hc1x
    have hc0r := (HS.out.be.cell (World.block_lt_of_cell? w _ hc0)).trans hc0
    have hc1r := (HS.out.be.cell (World.block_lt_of_cell? w _ hc1x)).trans hc1x
    have hfN : f.toNat < n := by omega
    have htN : t.toNat < n := by omega
    have hrl : ∀ b j, (((R b).getD j []).length + 1) * 8 ≤ 140737488355328 := fun b j => by have := HLn.out b j; omega
    have HS4 : Aside0 (St w (wr.alloc (.cells #[.int .i64 f, .int .i64 t] 55)) gb n G V R) := ⟨HS.out.alloc _⟩
    have he4 : (wr.alloc (.cells #[.int .i64 f, .int .i64 t] 55)).heap[wr.heap.size]? = some (.cells #[.int .i64 f, .int .i64 t] 55 (0, 0)) := heap_alloc_new wr _
    go_upto_region 5 with (fail)
    clear hc0r hc1r HS
    generalize hW4 : wr.alloc (.cells #[.int .i64 f, .int .i64 t] 55) = W4 at HS4 he4 ⊢
    generalize heb : wr.heap.size = eb at he4 ⊢
    clear hW4 heb
    have HE4 := Aside0.mk he4
    clear he4
    go_cut [] (fun wc => ∃ v1, Aside0 (St w wc gb n G (upd V true f.toNat v1) (upd R true f.toNat ((R true).getD f.toNat [] ++ [t]))) ∧ Aside0 (wc.heap[eb]? = some (.cells #[.int .i64 f, .int .i64 t] 55 (0, 0))))
    case first =>
     have k1 : W4.cell? ⟨gb, 0, none⟩ = some (.slice (some ⟨G true, 0, none⟩) n n) := HS4.out.cellg true
     have k2 : W4.cell? ⟨eb, 0, none⟩ = some (.int .i64 f) := (blk_cell HE4.out 0).trans rfl
     have k3 : W4.cell? ⟨eb, 1, none⟩ = some (.int .i64 t) := (blk_cell HE4.out 1).trans rfl
     have k4 := HS4.out.cellr true f.toNat hfN
     have hrow := HS4.out.gs.rows true f.toNat hfN
     generalize hve : (V true).getD f.toNat nilv = ve at k4 hrow
     have HROW5 : Aside0 (RowI W4.drew w.heap.size ve ((R true).getD f.toNat [])) := ⟨hrow.move (fun _ _ => rfl)⟩
     have HS5 : Aside0 (St w W4.drew gb n G V R) := ⟨HS4.out.drew⟩
     have HE5 : Aside0 (W4.drew.heap[eb]? = some (.cells #[.int .i64 f, .int .i64 t] 55 (0, 0))) := HE4
     have hap1 : ve.ownBlock ≠ some gb := rowi_ne hrow HS4.out.hg (by decide)
     have hap2 : ve.ownBlock ≠ some eb := rowi_ne hrow HE4.out (by decide)
     have hap3 : ve.ownBlock ≠ some (G true) := rowi_ne hrow (HS4.out.gs.blk true) (by decide)
     have heb : ∀ b, eb ≠ G b := fun b => blk_ne HE4.out (HS4.out.gs.blk b) (by decide)
     clear hrow
     refine start_ (n := 16) (S := fun w' => w'.cell? ⟨gb, 0, none⟩ = some (.slice (some ⟨G true, 0, none⟩) n n) ∧ w'.cell? ⟨eb, 0, none⟩ = some (.int .i64 f) ∧ w'.cell? ⟨eb, 1, none⟩ = some (.int .i64 t) ∧ w'.cell? ⟨G true, f.toNat, none⟩ = some ve) (ds := [15]) #[false, false, false, false, false, false, false, false, false, false, false, false, false, false, false, false] (by kernel_rfl) rfl rfl ⟨k1, k2, k3, k4⟩ (fun hHeld => ?_); refine with_tabW ng.tab5 ng.bits5 (fun HT_ HW_ => ?_)
     generalize W4.drew = W5 at HS5 HE5 HROW5 hHeld ⊢
     have hW5 := HS5.out.be.size
     refine pV 0 20 (bz 16 0x1) HT_.out ?_
     refine pV 2 22 (bz 16 0x5) HT_.out ?_
     refine pV 4 24 (bz 16 0x15) HT_.out ?_
     refine pV 6 26 (bz 16 0x55) HT_.out ?_
     refine pV 10 30 (bz 16 0x455) HT_.out ?_
     refine tV 1 21 (bz 16 0x457) HT_.out HW_.out hHeld rfl rfl (by rintro w' ⟨s0, s1, s2, s3⟩; go_simp; with_reducible rfl) ?_
     refine tV 3 23 (bz 16 0x45f) HT_.out HW_.out hHeld rfl rfl (by rintro w' ⟨s0, s1, s2, s3⟩; go_simp; with_reducible rfl) ?_
     refine tV 5 25 (bz 16 0x47f) HT_.out HW_.out hHeld rfl rfl (by rintro w' ⟨s0, s1, s2, s3⟩; go_simp; with_reducible rfl) ?_
     refine tV 7 27 (bz 16 0x4ff) HT_.out HW_.out hHeld rfl rfl (by rintro w' ⟨s0, s1, s2, s3⟩; go_simp; with_reducible rfl) ?_
     refine pV 8 28 (bz 16 0x5ff) HT_.out ?_
     refine tV 9 29 (bz 16 0x7ff) HT_.out HW_.out hHeld rfl rfl (by rintro w' ⟨s0, s1, s2, s3⟩; go_simp; with_reducible rfl) ?_
     refine tV 11 31 (bz 16 0xfff) HT_.out HW_.out hHeld rfl rfl (by rintro w' ⟨s0, s1, s2, s3⟩; go_simp; with_reducible rfl) ?_
     refine one_ (i := 12) (N := (some 32)) (bz 16 0x1fff) rfl rfl (one_of HT_.out (by kernel_rfl)) (by decide) (fun K hK => ?_)
     refine event_step (v := .slice (some ⟨W5.heap.size, 0, none⟩) 1 1) (w1 := W5.alloc (.cells #[.int .i64 t] 3)) (by rfl) ?hrB ?_
     case hrB => first | (go_simp; done) | (go_simp; rfl)
     refine hK.out (Act.put _ (some 32) _) _ ⟨pw_cell_below (below_alloc (Below.refl _ _) _) hHeld.1, pw_cell_below (below_alloc (Below.refl _ _) _) hHeld.2.1, pw_cell_below (below_alloc (Below.refl _ _) _) hHeld.2.2.1, pw_cell_below (below_alloc (Below.refl _ _) _) hHeld.2.2.2⟩ (fun hHeld2 => ?_)
     clear hK K
     simp only [Act.put, List.setIfInBounds_toArray, List.set_cons_zero, List.set_cons_succ]
     refine one_ (i := 13) (N := (some 33)) (bz 16 0x3fff) rfl rfl (one_of HT_.out (by kernel_rfl)) (by decide) (fun K hK => ?_)
     refine Kd.R_append_step KI (w0 := W5) w.heap.size (by rfl) _ _ 26 3 (.int .i64 0) 8 rfl Try.underlying26 It.info3 rfl (by decide) (by omega) ve ((R true).getD f.toNat []) t [.int .i64 t] (fun _ => True) (fun _ => False) rfl rfl rfl (fun _ hk => hk.elim) (fun _ _ => trivial) HROW5.out.any ⟨rfl, rfl, rfl, Nat.le_refl _, fun _ _ => rfl⟩ hW5 (hrl true f.toNat) ?_
     intro v1 w1 ho hb hg hat
     have hrun := RowI.of ho
     obtain ⟨g1, cap1, hv1, _, _, _⟩ := Kd.R_form ho (by simp)
     refine hK.out (Act.put _ (some 33) _) _ ⟨(hg.cell_far _ (World.block_lt_of_cell? W5 _ hHeld.1) (Ne.symm hap1)).trans hHeld.1, (hg.cell_far _ (World.block_lt_of_cell? W5 _ hHeld.2.1) (Ne.symm hap2)).trans hHeld.2.1, (hg.cell_far _ (World.block_lt_of_cell? W5 _ hHeld.2.2.1) (Ne.symm hap2)).trans hHeld.2.2.1, (hg.cell_far _ (World.block_lt_of_cell? W5 _ hHeld.2.2.2) (Ne.symm hap3)).trans hHeld.2.2.2⟩ (fun hHeld3 => ?_)
     clear hK K
     have hfz : w1.frozen? ⟨G true, f.toNat, none⟩ = false := (frozen_far hg _ (World.block_lt_of_cell? W5 _ hHeld.2.2.2) (Ne.symm hap3)).trans (blk_frozen (HS5.out.gs.blk true) _)
     have hcl := hHeld3.2.2.2
     have HP : Aside0 (St w (w1.setCell ⟨G true, f.toNat, none⟩ v1) gb n G (upd V true f.toNat v1) (upd R true f.toNat ((R true).getD f.toNat [] ++ [t]))) := ⟨HS5.out.put true f.toNat hfN (by rw [hve]; exact hg) hrun (by rw [hve]; exact hat) (by rw [hv1]; rfl)⟩
     have HQ : Aside0 ((w1.setCell ⟨G true, f.toNat, none⟩ v1).heap[eb]? = some (.cells #[.int .i64 f, .int .i64 t] 55 (0, 0))) := ⟨blk_far (blk_grown HE5.out hg (Ne.symm hap2)) (heb true) _⟩
     clear ho hb hg hat hHeld hHeld2 hrun
     subst hv1
     simp only [Act.put, List.setIfInBounds_toArray, List.set_cons_zero, List.set_cons_succ]
     refine pV 14 34 (bz 16 0x7fff) HT_.out ?_
     refine last_ (i := 15) (N := none) (bz 16 0xffff) rfl rfl (one_of HT_.out (by kernel_rfl)) (by decide) (fun K hK => ?_)
     refine skip_ (w1 := w1.setCell ⟨G true, f.toNat, none⟩ (.slice (some ⟨g1, 0, none⟩) ((R true).getD f.toNat [] ++ [t]).length cap1)) (by rfl) rfl ?hrS ?_
     case hrS => first | (go_simp; done) | (go_simp; rfl)
     refine hK.out _ _ ?_
     clear hK K
     refine done_ (done_of HT_.out (by kernel_rfl)) ?_
     go_wp2
     go_meet
     case rel => exact ⟨_, HP, HQ⟩
    case rest =>
     obtain ⟨v1, HS6, HE6⟩ := hcut
     generalize hV6 : upd V true f.toNat v1 = V6 at HS6
     generalize hR6 : upd R true f.toNat ((R true).getD f.toNat [] ++ [t]) = R6 at HS6
     have HR6 := Aside0.mk hR6
     have hrl6 : ∀ (_ : Bool) (j : Nat), (((R6 false).getD j []).length + 1) * 8 ≤ 140737488355328 := fun _ j => by rw [← HR6.out, upd_other R _ _ (by decide)]; exact hrl false j
     have hRf : R6 false = R false := by rw [← HR6.out, upd_other R _ _ (by decide)]
     have HRf := Aside0.mk hRf
     clear hV6 hR6 hRf
     go_wp2
     have k1 : wc.cell? ⟨gb, 1, none⟩ = some (.slice (some ⟨G false, 0, none⟩) n n) := HS6.out.cellg false
     have k2 : wc.cell? ⟨eb, 0, none⟩ = some (.int .i64 f) := (blk_cell HE6.out 0).trans rfl
     have k3 : wc.cell? ⟨eb, 1, none⟩ = some (.int .i64 t) := (blk_cell HE6.out 1).trans rfl
     have k4 := HS6.out.cellr false t.toNat htN
     have hrow := HS6.out.gs.rows false t.toNat htN
     generalize hve : (V6 false).getD t.toNat nilv = ve at k4 hrow
     have HROW5 : Aside0 (RowI wc.drew w.heap.size ve ((R6 false).getD t.toNat [])) := ⟨hrow.move (fun _ _ => rfl)⟩
     have HS5 : Aside0 (St w wc.drew gb n G V6 R6) := ⟨HS6.out.drew⟩
     have HE5 : Aside0 (wc.drew.heap[eb]? = some (.cells #[.int .i64 f, .int .i64 t] 55 (0, 0))) := HE6
     have hap1 : ve.ownBlock ≠ some gb := rowi_ne hrow HS6.out.hg (by decide)
     have hap2 : ve.ownBlock ≠ some eb := rowi_ne hrow HE6.out (by decide)
     have hap3 : ve.ownBlock ≠ some (G false) := rowi_ne hrow (HS6.out.gs.blk false) (by decide)
     have heb : ∀ b, eb ≠ G b := fun b => blk_ne HE6.out (HS6.out.gs.blk b) (by decide)
     clear hrow
     refine start_ (n := 16) (S := fun w' => w'.cell? ⟨gb, 1, none⟩ = some (.slice (some ⟨G false, 0, none⟩) n n) ∧ w'.cell? ⟨eb, 0, none⟩ = some (.int .i64 f) ∧ w'.cell? ⟨eb, 1, none⟩ = some (.int .i64 t) ∧ w'.cell? ⟨G false, t.toNat, none⟩ = some ve) (ds := [15]) #[false, false, false, false, false, false, false, false, false, false, false, false, false, false, false, false] (by kernel_rfl) rfl rfl ⟨k1, k2, k3, k4⟩ (fun hHeld => ?_); refine with_tabW ng.tab6 ng.bits6 (fun HT_ HW_ => ?_)
     generalize wc.drew = W5 at HS5 HE5 HROW5 hHeld ⊢
     have hW5 := HS5.out.be.size
     refine pV 0 35 (bz 16 0x1) HT_.out ?_
     refine pV 2 37 (bz 16 0x5) HT_.out ?_
     refine pV 4 39 (bz 16 0x15) HT_.out ?_
     refine pV 6 41 (bz 16 0x55) HT_.out ?_
     refine pV 10 45 (bz 16 0x455) HT_.out ?_
     refine tV 1 36 (bz 16 0x457) HT_.out HW_.out hHeld rfl rfl (by rintro w' ⟨s0, s1, s2, s3⟩; go_simp; with_reducible rfl) ?_
     refine tV 3 38 (bz 16 0x45f) HT_.out HW_.out hHeld rfl rfl (by rintro w' ⟨s0, s1, s2, s3⟩; go_simp; with_reducible rfl) ?_
     refine tV 5 40 (bz 16 0x47f) HT_.out HW_.out hHeld rfl rfl (by rintro w' ⟨s0, s1, s2, s3⟩; go_simp; with_reducible rfl) ?_
     refine tV 7 42 (bz 16 0x4ff) HT_.out HW_.out hHeld rfl rfl (by rintro w' ⟨s0, s1, s2, s3⟩; go_simp; with_reducible rfl) ?_
     refine pV 8 43 (bz 16 0x5ff) HT_.out ?_
     refine tV 9 44 (bz 16 0x7ff) HT_.out HW_.out hHeld rfl rfl (by rintro w' ⟨s0, s1, s2, s3⟩; go_simp; with_reducible rfl) ?_
     refine tV 11 46 (bz 16 0xfff) HT_.out HW_.out hHeld rfl rfl (by rintro w' ⟨s0, s1, s2, s3⟩; go_simp; with_reducible rfl) ?_
     refine one_ (i := 12) (N := (some 47)) (bz 16 0x1fff) rfl rfl (one_of HT_.out (by kernel_rfl)) (by decide) (fun K hK => ?_)
     refine event_step (v := .slice (some ⟨W5.heap.size, 0, none⟩) 1 1) (w1 := W5.alloc (.cells #[.int .i64 f] 3)) (by rfl) ?hrB ?_
     case hrB => first | (go_simp; done) | (go_simp; rfl)
     refine hK.out (Act.put _ (some 47) _) _ ⟨pw_cell_below (below_alloc (Below.refl _ _) _) hHeld.1, pw_cell_below (below_alloc (Below.refl _ _) _) hHeld.2.1, pw_cell_below (below_alloc (Below.refl _ _) _) hHeld.2.2.1, pw_cell_below (below_alloc (Below.refl _ _) _) hHeld.2.2.2⟩ (fun hHeld2 => ?_)
     clear hK K
     simp only [Act.put, List.setIfInBounds_toArray, List.set_cons_zero, List.set_cons_succ]
     refine one_ (i := 13) (N := (some 48)) (bz 16 0x3fff) rfl rfl (one_of HT_.out (by kernel_rfl)) (by decide) (fun K hK => ?_)
     refine Kd.R_append_step KI (w0 := W5) w.heap.size (by rfl) _ _ 26 3 (.int .i64 0) 8 rfl Try.underlying26 It.info3 rfl (by decide) (by omega) ve ((R6 false).getD t.toNat []) f [.int .i64 f] (fun _ => True) (fun _ => False) rfl rfl rfl (fun _ hk => hk.elim) (fun _ _ => trivial) HROW5.out.any ⟨rfl, rfl, rfl, Nat.le_refl _, fun _ _ => rfl⟩ hW5 (hrl6 false t.toNat) ?_
     intro v1 w1 ho hb hg hat
     have hrun := RowI.of ho
     obtain ⟨g1, cap1, hv1, _, _, _⟩ := Kd.R_form ho (by simp)
     refine hK.out (Act.put _ (some 48) _) _ ⟨(hg.cell_far _ (World.block_lt_of_cell? W5 _ hHeld.1) (Ne.symm hap1)).trans hHeld.1, (hg.cell_far _ (World.block_lt_of_cell? W5 _ hHeld.2.1) (Ne.symm hap2)).trans hHeld.2.1, (hg.cell_far _ (World.block_lt_of_cell? W5 _ hHeld.2.2.1) (Ne.symm hap2)).trans hHeld.2.2.1, (hg.cell_far _ (World.block_lt_of_cell? W5 _ hHeld.2.2.2) (Ne.symm hap3)).trans hHeld.2.2.2⟩ (fun hHeld3 => ?_)
     clear hK K
     have hfz : w1.frozen? ⟨G false, t.toNat, none⟩ = false := (frozen_far hg _ (World.block_lt_of_cell? W5 _ hHeld.2.2.2) (Ne.symm hap3)).trans (blk_frozen (HS5.out.gs.blk false) _)
     have hcl := hHeld3.2.2.2
     have HP : Aside0 (St w (w1.setCell ⟨G false, t.toNat, none⟩ v1) gb n G (upd V6 false t.toNat v1) (upd R6 false t.toNat ((R6 false).getD t.toNat [] ++ [f]))) := ⟨HS5.out.put false t.toNat htN (by rw [hve]; exact hg) hrun (by rw [hve]; exact hat) (by rw [hv1]; rfl)⟩
     have HQ : Aside0 ((w1.setCell ⟨G false, t.toNat, none⟩ v1).heap[eb]? = some (.cells #[.int .i64 f, .int .i64 t] 55 (0, 0))) := ⟨blk_far (blk_grown HE5.out hg (Ne.symm hap2)) (heb false) _⟩
     clear ho hb hg hat hHeld hHeld2 hrun
     subst hv1
     simp only [Act.put, List.setIfInBounds_toArray, List.set_cons_zero, List.set_cons_succ]
     refine pV 14 49 (bz 16 0x7fff) HT_.out ?_
     refine last_ (i := 15) (N := none) (bz 16 0xffff) rfl rfl (one_of HT_.out (by kernel_rfl)) (by decide) (fun K hK => ?_)
     refine skip_ (w1 := w1.setCell ⟨G false, t.toNat, none⟩ (.slice (some ⟨g1, 0, none⟩) ((R6 false).getD t.toNat [] ++ [f]).length cap1)) (by rfl) rfl ?hrS ?_
     case hrS => first | (go_simp; done) | (go_simp; rfl)
     refine hK.out _ _ ?_
     clear hK K
     refine done_ (done_of HT_.out (by kernel_rfl)) ?_
     go_wp2
     obtain ⟨m1, rfl⟩ : ∃ m1, gk = m1 + 1 := ⟨gk - 1, by omega⟩
     go_roundg m1
     case measure => omega
     case rel =>
      refine ⟨i + 1, _, _, by go_num, by omega, by omega, ⟨by first | exact HP.out | (have h_ := HP.out; simp only [List.length_append, List.length_singleton, List.getD_eq_getElem?_getD] at h_ ⊢; exact h_) | (have h_ := HP.out; trace_state; exact h_)⟩, ⟨?_⟩, ⟨fun b j => ?_⟩⟩
      ·have e : l1.take (i + 1) = l1.take i ++ [⟨f, t⟩] := by
        rw [List.take_succ_eq_append_getElem hlt]
        congr 2
        have := HED.out
        unfold rd_T55 at this
        rw [List.getD_eq_getElem?_getD, List.getElem?_eq_getElem (by simpa using hlt)] at this
        simpa using this.symm
       rw [e]
       unfold built
       rw [List.foldl_append]
       have hb : List.foldl addE (fun _ => List.replicate n []) (l1.take i) = R := HR.out.symm
       rw [hb]
       show _ = addE R ⟨f, t⟩
       unfold addE
       rw [HRf.out, HR6.out]
       rfl
      ·have h6 : ∀ c j, ((R6 c).getD j []).length ≤ i + 1 := fun c j => by
        rw [← HR6.out]
        refine upd_len _ _ _ _ _ (by rw [List.length_append]; have := HLn.out true f.toNat; simp at this ⊢; omega) (fun c j => by have := HLn.out c j; omega) c j
       refine upd_len _ _ _ _ _ ?_ h6 b j
       rw [List.length_append, HRf.out]
       have := HLn.out false t.toNat
       simp at this ⊢
       omega
   ·obtain rfl : i = l1.length := by omega
    rw [List.take_length] at HR
    have HR2 : Aside0 (∀ b, R b = (tidy (built n l1 b)).take 0 ++ (built n l1 b).drop 0) := ⟨fun b => by rw [HR.out]; simp⟩
    have HB : Aside0 (∀ b j, ((built n l1 b).getD j []).length ≤ 10000) := ⟨fun b j => by have := HLn.out b j; rw [← HR.out]; omega⟩
    clear HR HLn
    go_wp2
    go_loopg [52] (n + 1) (fun m v wr => ∃ (i : Nat) (V : Bool → List Value) (R : Bool → List (List Int)), v = .int .i64 i ∧ i ≤ n ∧ n < m + i ∧ Aside0 (St w wr gb n G V R) ∧ Aside0 (∀ b, R b = (tidy (built n l1 b)).take i ++ (built n l1 b).drop i))
    case atStart => exact ⟨0, _, _, rfl, Nat.zero_le _, by omega, HS, HR2⟩
    case round =>
     clear HS HR2
     obtain ⟨i, V, R, rfl, hi1, hi2, HS, HR⟩ := hrel
     by_cases hlt : i < n
     ·have hsm1 : ((R true).getD i []).length ≤ 1000000 := by rw [HR.out true, tidy_at _ _ [] (by rw [built_length]; exact hlt)]; have := HB.out true i; omega
      have hsm2 : ((R false).getD i []).length ≤ 1000000 := by rw [HR.out false, tidy_at _ _ [] (by rw [built_length]; exact hlt)]; have := HB.out false i; omega
      have k11 : wr.cell? ⟨gb, 0, none⟩ = some (.slice (some ⟨G true, 0, none⟩) n n) := HS.out.cellg true
      have k41 := HS.out.cellr true i hlt
      have hrow1 := HS.out.gs.rows true i hlt
      generalize hve1 : (V true).getD i nilv = ve1 at k41 hrow1
      have HROW1 := Aside0.mk hrow1
      clear hrow1
      go_upto_region 12 with (go_at_call 45; refine (sort_row _ w.heap.size _ ((R true).getD i []) HROW1.out (hsm1)).mono ?_; rintro e w11 ⟨rfl, hr11, hg11⟩; have HS11 : Aside0 (St w w11 gb n G V (upd R true i (sortI ((R true).getD i [])))) := ⟨HS.out.turn true i hlt (by rw [hve1]; exact hg11) (by rw [hve1]; exact hr11)⟩; have HR11 := Aside0.mk hr11; clear hr11 hg11 k11 k41)
      have k11 : w11.cell? ⟨gb, 0, none⟩ = some (.slice (some ⟨G true, 0, none⟩) n n) := HS11.out.cellg true
      have k41 := HS11.out.cellr true i hlt
      rw [hve1] at k41
      have hap11 : ve1.ownBlock ≠ some gb := rowi_ne HR11.out HS11.out.hg (by decide)
      have hap31 : ve1.ownBlock ≠ some (G true) := rowi_ne HR11.out (HS11.out.gs.blk true) (by decide)
      have HSD1 : Aside0 (St w w11.drew gb n G V (upd R true i (sortI ((R true).getD i [])))) := ⟨HS11.out.drew⟩
      have HRD1 : Aside0 (RowI w11.drew w.heap.size ve1 (sortI ((R true).getD i []))) := ⟨HR11.out.move (fun _ _ => rfl)⟩
      have HV1 := Aside0.mk hve1
      clear hve1
      refine start_ (n := 11) (S := fun w' => w'.cell? ⟨gb, 0, none⟩ = some (.slice (some ⟨G true, 0, none⟩) n n) ∧ w'.cell? ⟨G true, i, none⟩ = some ve1) (ds := [10]) #[false, false, false, false, false, false, false, false, false, false, false] (by kernel_rfl) rfl rfl ⟨k11, k41⟩ (fun hHeld => ?_); refine with_tabW ng.tab12 ng.bits12 (fun HT_ HW_ => ?_)
      generalize w11.drew = W51 at HSD1 HRD1 hHeld ⊢
      refine pV 0 61 (bz 11 0x1) HT_.out ?_
      refine pV 2 63 (bz 11 0x5) HT_.out ?_
      refine pV 3 64 (bz 11 0xd) HT_.out ?_
      refine pV 5 66 (bz 11 0x2d) HT_.out ?_
      refine tV 1 62 (bz 11 0x2f) HT_.out HW_.out hHeld rfl rfl (by rintro w' ⟨s0, s1⟩; go_simp; with_reducible rfl) ?_
      refine tV 4 65 (bz 11 0x3f) HT_.out HW_.out hHeld rfl rfl (by rintro w' ⟨s0, s1⟩; go_simp; with_reducible rfl) ?_
      refine pV 6 67 (bz 11 0x7f) HT_.out ?_
      refine tV 7 68 (bz 11 0xff) HT_.out HW_.out hHeld rfl rfl (by rintro w' ⟨s0, s1⟩; go_simp; with_reducible rfl) ?_
      refine one_ (i := 8) (N := (some 69)) (bz 11 0x1ff) rfl rfl (one_of HT_.out (by kernel_rfl)) (by decide) (fun K hK => ?_)
      refine goes_ Try.func58 (by kernel_rfl) rfl #[ve1] (by rfl) rfl rfl (by simp only [List.map_toArray, List.map_cons, List.map_nil]; rfl) ?_
      refine (compact_row W51 w.heap.size ve1 (sortI ((R true).getD i [])) HRD1.out (by rw [sortI_length]; exact hsm1)).mono ?_
      rintro e wm1 ⟨vn1, rfl, hr, hob, hg, hone⟩
      refine ⟨_, rfl, ?_⟩
      refine hK.out (Act.put _ (some 69) _) _ ⟨(hg.cell_far _ (World.block_lt_of_cell? W51 _ hHeld.1) (Ne.symm hap11)).trans hHeld.1, (hg.cell_far _ (World.block_lt_of_cell? W51 _ hHeld.2) (Ne.symm hap31)).trans hHeld.2⟩ (fun hHeld3 => ?_)
      clear hK K
      have hfz : wm1.frozen? ⟨G true, i, none⟩ = false := (frozen_far hg _ (World.block_lt_of_cell? W51 _ hHeld.2) (Ne.symm hap31)).trans (blk_frozen (HSD1.out.gs.blk true) _)
      have hcl := hHeld3.2
      obtain ⟨Av1, cv1, hvn⟩ := Kd.R_slice hr
      have HP1 : Aside0 (St w (wm1.setCell ⟨G true, i, none⟩ vn1) gb n G (upd V true i vn1) (upd (upd R true i (sortI ((R true).getD i []))) true i (Lib.compact (sortI ((R true).getD i []))))) := ⟨HSD1.out.put true i hlt (by rw [HV1.out]; exact hg) hr (by rw [HV1.out]; exact .inl hob) hone⟩
      clear hr hob hg hone hHeld
      subst hvn
      simp only [Act.put, List.setIfInBounds_toArray, List.set_cons_zero, List.set_cons_succ]
      refine pV 9 70 (bz 11 0x3ff) HT_.out ?_
      refine last_ (i := 10) (N := none) (bz 11 0x7ff) rfl rfl (one_of HT_.out (by kernel_rfl)) (by decide) (fun K hK => ?_)
      refine skip_ (w1 := wm1.setCell ⟨G true, i, none⟩ (.slice Av1 (Lib.compact (sortI ((R true).getD i []))).length cv1)) (by rfl) rfl ?hrT1 ?_
      case hrT1 => first | (go_simp; done) | (go_simp; rfl)
      refine hK.out _ _ ?_
      clear hK K
      refine done_ (done_of HT_.out (by kernel_rfl)) ?_
      go_upto_region 13 with (fail)
      obtain ⟨V3, HP3⟩ : ∃ V3, Aside0 (St w (wm1.setCell ⟨G true, i, none⟩ (.slice Av1 (Lib.compact (sortI ((R true).getD i []))).length cv1)) gb n G V3 (upd (upd R true i (sortI ((R true).getD i []))) true i (Lib.compact (sortI ((R true).getD i []))))) := ⟨_, HP1⟩
      obtain ⟨R3, hR3⟩ : ∃ R3, R3 = upd (upd R true i (sortI ((R true).getD i []))) true i (Lib.compact (sortI ((R true).getD i []))) := ⟨_, rfl⟩
      rw [← hR3] at HP3
      have HR3 := Aside0.mk hR3
      have hsm2 : ((R3 false).getD i []).length ≤ 1000000 := by rw [hR3, upd_other _ _ _ (by decide), upd_other _ _ _ (by decide)]; exact hsm2
      clear hR3 HP1
      generalize (wm1.setCell ⟨G true, i, none⟩ (.slice Av1 (Lib.compact (sortI ((R true).getD i []))).length cv1)) = W3 at HP3 ⊢
      have k12 : W3.cell? ⟨gb, 1, none⟩ = some (.slice (some ⟨G false, 0, none⟩) n n) := HP3.out.cellg false
      have k42 := HP3.out.cellr false i hlt
      have hrow2 := HP3.out.gs.rows false i hlt
      generalize hve2 : (V3 false).getD i nilv = ve2 at k42 hrow2
      have HROW2 := Aside0.mk hrow2
      clear hrow2
      go_upto_region 14 with (go_at_call 45; refine (sort_row _ w.heap.size _ ((R3 false).getD i []) HROW2.out (hsm2)).mono ?_; rintro e w12 ⟨rfl, hr12, hg12⟩; have HS12 : Aside0 (St w w12 gb n G V3 (upd R3 false i (sortI ((R3 false).getD i [])))) := ⟨HP3.out.turn false i hlt (by rw [hve2]; exact hg12) (by rw [hve2]; exact hr12)⟩; have HR12 := Aside0.mk hr12; clear hr12 hg12 k12 k42)
      have k12 : w12.cell? ⟨gb, 1, none⟩ = some (.slice (some ⟨G false, 0, none⟩) n n) := HS12.out.cellg false
      have k42 := HS12.out.cellr false i hlt
      rw [hve2] at k42
      have hap12 : ve2.ownBlock ≠ some gb := rowi_ne HR12.out HS12.out.hg (by decide)
      have hap32 : ve2.ownBlock ≠ some (G false) := rowi_ne HR12.out (HS12.out.gs.blk false) (by decide)
      have HSD2 : Aside0 (St w w12.drew gb n G V3 (upd R3 false i (sortI ((R3 false).getD i [])))) := ⟨HS12.out.drew⟩
      have HRD2 : Aside0 (RowI w12.drew w.heap.size ve2 (sortI ((R3 false).getD i []))) := ⟨HR12.out.move (fun _ _ => rfl)⟩
      have HV2 := Aside0.mk hve2
      clear hve2
      refine start_ (n := 11) (S := fun w' => w'.cell? ⟨gb, 1, none⟩ = some (.slice (some ⟨G false, 0, none⟩) n n) ∧ w'.cell? ⟨G false, i, none⟩ = some ve2) (ds := [10]) #[false, false, false, false, false, false, false, false, false, false, false] (by kernel_rfl) rfl rfl ⟨k12, k42⟩ (fun hHeld => ?_); refine with_tabW ng.tab14 ng.bits14 (fun HT_ HW_ => ?_)
      generalize w12.drew = W52 at HSD2 HRD2 hHeld ⊢
      refine pV 0 77 (bz 11 0x1) HT_.out ?_
      refine pV 2 79 (bz 11 0x5) HT_.out ?_
      refine pV 3 80 (bz 11 0xd) HT_.out ?_
      refine pV 5 82 (bz 11 0x2d) HT_.out ?_
      refine tV 1 78 (bz 11 0x2f) HT_.out HW_.out hHeld rfl rfl (by rintro w' ⟨s0, s1⟩; go_simp; with_reducible rfl) ?_
      refine tV 4 81 (bz 11 0x3f) HT_.out HW_.out hHeld rfl rfl (by rintro w' ⟨s0, s1⟩; go_simp; with_reducible rfl) ?_
      refine pV 6 83 (bz 11 0x7f) HT_.out ?_
      refine tV 7 84 (bz 11 0xff) HT_.out HW_.out hHeld rfl rfl (by rintro w' ⟨s0, s1⟩; go_simp; with_reducible rfl) ?_
      refine one_ (i := 8) (N := (some 85)) (bz 11 0x1ff) rfl rfl (one_of HT_.out (by kernel_rfl)) (by decide) (fun K hK => ?_)
      refine goes_ Try.func58 (by kernel_rfl) rfl #[ve2] (by rfl) rfl rfl (by simp only [List.map_toArray, List.map_cons, List.map_nil]; rfl) ?_
      refine (compact_row W52 w.heap.size ve2 (sortI ((R3 false).getD i [])) HRD2.out (by rw [sortI_length]; exact hsm2)).mono ?_
      rintro e wm2 ⟨vn2, rfl, hr, hob, hg, hone⟩
      refine ⟨_, rfl, ?_⟩
      refine hK.out (Act.put _ (some 85) _) _ ⟨(hg.cell_far _ (World.block_lt_of_cell? W52 _ hHeld.1) (Ne.symm hap12)).trans hHeld.1, (hg.cell_far _ (World.block_lt_of_cell? W52 _ hHeld.2) (Ne.symm hap32)).trans hHeld.2⟩ (fun hHeld3 => ?_)
      clear hK K
      have hfz : wm2.frozen? ⟨G false, i, none⟩ = false := (frozen_far hg _ (World.block_lt_of_cell? W52 _ hHeld.2) (Ne.symm hap32)).trans (blk_frozen (HSD2.out.gs.blk false) _)
      have hcl := hHeld3.2
      obtain ⟨Av2, cv2, hvn⟩ := Kd.R_slice hr
      have HP2 : Aside0 (St w (wm2.setCell ⟨G false, i, none⟩ vn2) gb n G (upd V3 false i vn2) (upd (upd R3 false i (sortI ((R3 false).getD i []))) false i (Lib.compact (sortI ((R3 false).getD i []))))) := ⟨HSD2.out.put false i hlt (by rw [HV2.out]; exact hg) hr (by rw [HV2.out]; exact .inl hob) hone⟩
      clear hr hob hg hone hHeld
      subst hvn
      simp only [Act.put, List.setIfInBounds_toArray, List.set_cons_zero, List.set_cons_succ]
      refine pV 9 86 (bz 11 0x3ff) HT_.out ?_
      refine last_ (i := 10) (N := none) (bz 11 0x7ff) rfl rfl (one_of HT_.out (by kernel_rfl)) (by decide) (fun K hK => ?_)
      refine skip_ (w1 := wm2.setCell ⟨G false, i, none⟩ (.slice Av2 (Lib.compact (sortI ((R3 false).getD i []))).length cv2)) (by rfl) rfl ?hrT2 ?_
      case hrT2 => first | (go_simp; done) | (go_simp; rfl)
      refine hK.out _ _ ?_
      clear hK K
      refine done_ (done_of HT_.out (by kernel_rfl)) ?_
      go_wp2
      obtain ⟨m1, rfl⟩ : ∃ m1, gk = m1 + 1 := ⟨gk - 1, by omega⟩
      go_roundg m1
      case measure => omega
      case rel =>
       refine ⟨i + 1, _, _, by go_num, by omega, by omega, HP2, ⟨fun b => ?_⟩⟩
       cases b
       ·rw [upd_same, upd_same, List.set_set, HR3.out, upd_other _ _ _ (by decide), upd_other _ _ _ (by decide), HR.out false, tidy_at _ _ [] (by rw [built_length]; exact hlt)]
        exact tidy_step _ _ (by rw [built_length]; exact hlt)
       ·rw [upd_other _ _ _ (by decide), upd_other _ _ _ (by decide), HR3.out, upd_same, upd_same, List.set_set, HR.out true, tidy_at _ _ [] (by rw [built_length]; exact hlt)]
        exact tidy_step _ _ (by rw [built_length]; exact hlt)
     ·obtain rfl : i = n := by omega
      have kg0 : wr.cell? ⟨gb, 0, none⟩ = some (.slice (some ⟨G true, 0, none⟩) i i) := HS.out.cellg true
      have kg1 : wr.cell? ⟨gb, 1, none⟩ = some (.slice (some ⟨G false, 0, none⟩) i i) := HS.out.cellg false
      have kr0 : wr.cell? ⟨w.heap.size, 0, none⟩ = some (.slice none 0 0) := (blk_cell HS.out.hr 0).trans rfl
      have kr1 : wr.cell? ⟨w.heap.size, 1, none⟩ = some (.slice none 0 0) := (blk_cell HS.out.hr 1).trans rfl
      have kf0 : wr.frozen? ⟨w.heap.size, 0, none⟩ = false := blk_frozen HS.out.hr 0
      have kf1 : wr.frozen? ⟨w.heap.size, 1, none⟩ = false := blk_frozen HS.out.hr 1
      obtain ⟨hf1, ⟨wK, hp, hf2⟩, hf3⟩ := HS.out.finish (by omega)
      have HPt := Aside0.mk hp
      clear hp
      have HF1 := Aside0.mk hf1
      have HF2 := Aside0.mk hf2
      have HF3 := Aside0.mk hf3
      clear hf1 hf2 hf3
      go_wp2
      refine bodyPost_ret (results_cell_row rfl _ _ w.heap.size 73 #[.slice (some ⟨G true, 0, none⟩) i i, .slice (some ⟨G false, 0, none⟩) i i] (0, 0) _ rfl HF1.out Try.underlying73 rfl (by kernel_rfl)) rfl ?_
      have hend : ∀ b, R b = tidy (built i l1 b) := fun b => by
       rw [HR.out b, List.take_of_length_le (by simp [tidy, built_length]), List.drop_of_length_le (by simp [built_length]), List.append_nil]
      exact ⟨G true, G false, rfl, ⟨wK, HPt.out, by rw [← hend]; exact HF2.out true, by rw [← hend]; exact HF2.out false⟩, HF3.out⟩
end Go.Proofs.Ytlldjinejckbaaa.Ng

end
section
namespace Go.Proofs.Ytlldjinejckbaaa.Fr
open Go Go.RowKit Go.Proofs.YtlldjinejckbaaaW.PrintWords Go.Proofs.YtlldjinejckbaaaW.PrintLast Go.Proofs.YtlldjinejckbaaaW.PrintMore
open Go.Proofs.Ytlldjinejckbaaa.It Go.Proofs.Ytlldjinejckbaaa.Mod Go.Proofs.Ytlldjinejckbaaa.Foot
set_option linter.unusedVariables false
set_option linter.unusedSimpArgs false
theorem field0 (A B : Option Addr) (n m n' m' : Nat) (w : World) : (Instr.field 73 (.agg #[.slice A n m, .slice B n' m']) 0).run Try.prog w = .ok (.slice A n m) w := by
 simp [Instr.field, asAgg, go_sem]
theorem from_calls (A : Option Addr) (n c : Nat) (start : Int) (w : World) :
  Calls Try.prog 43 #[.slice A n c, .int .i64 start] w fun e w' => e = .returned (.func (.func 57) #[] #[.pointer (some ⟨w.heap.size, 0, none⟩), .pointer (some ⟨w.heap.size + 1, 0, none⟩)]) ∧
   w' = (w.alloc (.cells #[.slice A n c] 44)).alloc (.cells #[.int .i64 start] 3) := by
 go_enter Try.func43, Try.ntmps43
 go_wp2
 refine bodyPost_ret (results_tmp rfl _ _ _) rfl ?_
 exact ⟨rfl, rfl⟩
theorem from_seq (n Bn Bs c : Nat) (Kp : Nat → Prop) (A : Option Addr) (rows : List (List Int)) (start : Int) (hfits : Fits rows) (hsmall : rows.length ≤ 1000) (hlens : ∀ r ∈ rows, r.length ≤ 1000000) (h0s : 0 ≤ start) (h1s : start < rows.length)
  (wg : World) (hG : Kd.C KR wg A rows.length rows) (hwg : ∀ a v, wg.cell? a = some v → Kp a.block) (hAc : rows.length ≤ c) (w : World) (hgW : ∀ a v, wg.cell? a = some v → w.cell? a = some v) (hn : ∀ k, Kp k → k < w.heap.size)
  (hBn : w.cell? ⟨Bn, 0, none⟩ = some (.slice A rows.length c)) (hBs : w.cell? ⟨Bs, 0, none⟩ = some (.int .i64 start)) (hbn : Kp Bn) (hbs : Kp Bs) :
  SeqFoot Fence.wide n Try.prog 57 #[.pointer (some ⟨Bn, 0, none⟩), .pointer (some ⟨Bs, 0, none⟩)] (fun x : Int × Int => #[.int .i64 x.1, .int .i64 x.2]) Kp (fun xs => xs = fromOf rows start) (fun pre => pre <+: fromOf rows start) (fun pre x => pre ++ [x] <+: fromOf rows start) w := by
 intro l J Jx W hb hJ hJx hY fp h0 hfp
 refine callsIn_wide.2 ?_
 have e : ∀ {a : Addr} {v : Value}, Kp a.block → w.cell? a = some v → W.cell? a = some v := fun hk hv => (hb.cell (hn _ hk)).trans hv
 exact from1_in n l Bn Bs c Kp A rows start hfits hsmall hlens h0s h1s wg hG hwg hAc J Jx hJ hJx W (fun a v hv => e (hwg a v hv) (hgW a v hv)) (fun k hk => Nat.lt_of_lt_of_le (hn k hk) hb.size) (e (a := ⟨Bn, 0, none⟩) hbn hBn) (e (a := ⟨Bs, 0, none⟩) hbs hBs) hbn hbs hY fp h0 hfp
theorem from_seqN (n Bn Bs c N : Nat) (Kp : Nat → Prop) (A : Option Addr) (rows : List (List Int)) (hN : rows.length = N) (start : Int) (hfits : Fits rows) (hsmall : N ≤ 1000) (hlens : ∀ r ∈ rows, r.length ≤ 1000000) (h0s : 0 ≤ start) (h1s : start < N)
  (wg : World) (hG : Kd.C KR wg A N rows) (hAc : N ≤ c) (w : World) (hgW : ∀ a v, wg.cell? a = some v → Kp a.block ∧ w.cell? a = some v) (hn : ∀ k, Kp k → k < w.heap.size)
  (hBn : w.cell? ⟨Bn, 0, none⟩ = some (.slice A N c)) (hBs : w.cell? ⟨Bs, 0, none⟩ = some (.int .i64 start)) (hbn : Kp Bn) (hbs : Kp Bs) :
  SeqFoot Fence.wide n Try.prog 57 #[.pointer (some ⟨Bn, 0, none⟩), .pointer (some ⟨Bs, 0, none⟩)] (fun x : Int × Int => #[.int .i64 x.1, .int .i64 x.2]) Kp (fun xs => xs = fromOf rows start) (fun pre => pre <+: fromOf rows start) (fun pre x => pre ++ [x] <+: fromOf rows start) w := by
 subst hN
 exact from_seq n Bn Bs c Kp A rows start hfits hsmall hlens h0s h1s wg hG (fun a v h => (hgW a v h).1) hAc w (fun a v h => (hgW a v h).2) hn hBn hBs hbn hbs
end Go.Proofs.Ytlldjinejckbaaa.Fr

end
section
namespace Go.Proofs.Ytlldjinejckbaaa.Rc
open Go Go.RowKit Go.Proofs.YtlldjinejckbaaaW.PrintWords Go.Proofs.YtlldjinejckbaaaW.PrintLast Go.Proofs.YtlldjinejckbaaaW.PrintMore
open Go.Proofs.Ytlldjinejckbaaa.It Go.Proofs.Ytlldjinejckbaaa.Mod Go.Proofs.Ytlldjinejckbaaa.Foot Go.Proofs.Ytlldjinejckbaaa.Gs Go.Proofs.Ytlldjinejckbaaa.Lb Go.Proofs.Ytlldjinejckbaaa.Ng Go.Proofs.Ytlldjinejckbaaa.Fr Go.Proofs.Ytlldjinejckbaaa.PD
set_option linter.unusedVariables false
set_option linter.unusedSimpArgs false
attribute [local go_sem] Oper.semAt_some
theorem tidy_length (rows : List (List Int)) : (tidy rows).length = rows.length := by simp [tidy]
theorem mem_addE {R : Bool → List (List Int)} {e : S55} {N : Int} (he : 0 ≤ e.f0 ∧ e.f0 < N ∧ 0 ≤ e.f1 ∧ e.f1 < N) (h : ∀ b, ∀ r ∈ R b, ∀ x ∈ r, 0 ≤ x ∧ x < N) : ∀ b, ∀ r ∈ addE R e b, ∀ x ∈ r, 0 ≤ x ∧ x < N := by
 have key : ∀ (R : Bool → List (List Int)) (b : Bool) (i : Nat) (y : Int), 0 ≤ y → y < N → (∀ b, ∀ r ∈ R b, ∀ x ∈ r, 0 ≤ x ∧ x < N) → ∀ c, ∀ r ∈ upd R b i ((R b).getD i [] ++ [y]) c, ∀ x ∈ r, 0 ≤ x ∧ x < N := by
  intro R b i y h0 h1 h c r hr x hx
  unfold upd at hr
  split at hr
  ·rename_i hcb
   subst hcb
   rcases List.mem_or_eq_of_mem_set hr with hr | rfl
   ·exact h _ r hr x hx
   ·rcases List.mem_append.1 hx with hx | hx
    ·rw [List.getD_eq_getElem?_getD] at hx
     cases e : (R c)[i]? with
     | none => rw [e] at hx; simp at hx
     | some q => rw [e] at hx; exact h _ q (List.mem_of_getElem? e) x hx
    ·simp at hx; subst hx; exact ⟨h0, h1⟩
  ·exact h _ r hr x hx
 intro b
 unfold addE
 have := key (upd R true e.f0.toNat ((R true).getD e.f0.toNat [] ++ [e.f1])) false e.f1.toNat e.f0 he.1 he.2.1 (key R true e.f0.toNat e.f1 he.2.2.1 he.2.2.2 h) b
 rw [upd_other R _ _ (by decide : false ≠ true)] at this
 exact this
theorem mem_built {n : Nat} {l : List S55} (hv : ∀ e ∈ l, 0 ≤ e.f0 ∧ e.f0 < n ∧ 0 ≤ e.f1 ∧ e.f1 < n) (b : Bool) : ∀ r ∈ built n l b, ∀ x ∈ r, 0 ≤ x ∧ x < (n : Int) := by
 have : ∀ (l : List S55) (R : Bool → List (List Int)), (∀ e ∈ l, 0 ≤ e.f0 ∧ e.f0 < n ∧ 0 ≤ e.f1 ∧ e.f1 < n) → (∀ b, ∀ r ∈ R b, ∀ x ∈ r, 0 ≤ x ∧ x < (n : Int)) → ∀ b, ∀ r ∈ l.foldl addE R b, ∀ x ∈ r, 0 ≤ x ∧ x < (n : Int) := by
  intro l
  induction l with
  | nil => intro R _ h; exact h
  | cons e l ih => intro R hl h; rw [List.foldl_cons]; exact ih _ (fun e he => hl e (List.mem_cons_of_mem _ he)) (mem_addE (hl e (by simp)) h)
 exact this l _ hv (fun b r hr x hx => by have := List.eq_of_mem_replicate hr; subst this; simp at hx) b
theorem mem_sortI {x : Int} {r : List Int} : x ∈ sortI r ↔ x ∈ r := by unfold sortI; exact List.mem_mergeSort
theorem mem_compact {x : Int} {zs : List Int} (h : x ∈ Lib.compact zs) : x ∈ zs := by
 unfold Lib.compact Lib.compactUpTo at h
 obtain ⟨i, hi, rfl⟩ := List.mem_map.1 h
 have hi := List.mem_range.1 (List.mem_filter.1 hi).1
 simp [hi]
theorem fits_tidy {n : Nat} {l : List S55} (hv : ∀ e ∈ l, 0 ≤ e.f0 ∧ e.f0 < n ∧ 0 ≤ e.f1 ∧ e.f1 < n) (b : Bool) : Fits (tidy (built n l b)) := by
 intro r hr x hx
 rw [tidy_length, built_length]
 unfold tidy at hr
 obtain ⟨q, hq, rfl⟩ := List.mem_map.1 hr
 have := mem_compact hx
 exact mem_built hv b q hq x (mem_sortI.1 this)
theorem built_row_len (n : Nat) (l : List S55) (b : Bool) : ∀ j, ((built n l b).getD j []).length ≤ l.length := by
 have : ∀ (l : List S55) (R : Bool → List (List Int)) (k : Nat), (∀ b j, ((R b).getD j []).length ≤ k) → ∀ b j, ((l.foldl addE R b).getD j []).length ≤ k + l.length := by
  intro l
  induction l with
  | nil => intro R k h; exact h
  | cons e l ih =>
   intro R k h b j
   rw [List.foldl_cons, List.length_cons]
   have := ih (addE R e) (k + 1) (fun b j => ?_) b j
   ·omega
   ·unfold addE
    refine upd_len _ _ _ _ _ (by rw [List.length_append]; have := h false e.f1.toNat; simp at this ⊢; omega) (fun c j => upd_len _ _ _ _ _ (by rw [List.length_append]; have := h true e.f0.toNat; simp at this ⊢; omega) (fun c j => by have := h c j; omega) c j) b j
 intro j
 have := this l (fun _ => List.replicate n []) 0 (fun b j => by
  rw [List.getD_eq_getElem?_getD]
  cases h : (List.replicate n ([] : List Int))[j]? with
  | none => simp
  | some r => have := List.mem_of_getElem? h; simp at this; simp [this]) b j
 unfold built
 omega
theorem len_tidy (n : Nat) (l : List S55) (b : Bool) : ∀ r ∈ tidy (built n l b), r.length ≤ l.length := by
 intro r hr
 unfold tidy at hr
 obtain ⟨q, hq, rfl⟩ := List.mem_map.1 hr
 obtain ⟨j, hj, rfl⟩ := List.mem_iff_getElem.1 hq
 have h1 := Lib.compact_length_le (sortI (built n l b)[j])
 rw [sortI_length] at h1
 have h2 := built_row_len n l b j
 rw [List.getD_eq_getElem?_getD, List.getElem?_eq_getElem hj] at h2
 exact Nat.le_trans h1 h2
theorem bfs_len (rows : List (List Int)) : ∀ (k : Nat) (far q : List Int), (bfs rows k far q).length ≤ k
 | 0, _, _ => Nat.le_refl _
 | _ + 1, _, [] => Nat.zero_le _
 | k + 1, far, v :: q => by unfold bfs; rw [List.length_cons]; have := bfs_len rows k (relax v (row rows v) far q).1 (relax v (row rows v) far q).2; omega
theorem from_len (rows : List (List Int)) (s : Int) : (fromOf rows s).length ≤ rows.length + 1 := bfs_len _ _ _ _
def reachOf (n : Nat) (l : List S55) (s : Int) : List Int := if s < 0 ∨ (n : Int) ≤ s then [] else sortI ((fromOf (tidy (built n l true)) s).map (·.1))
structure RBox (base ob : Nat) (W : World) (v : Value) (xs : List Int) : Prop where
 cell : W.heap[ob]? = some (.cells #[v] 26 (0, 0))
 row : RowI W base v xs
theorem RBox.ne {base ob : Nat} {W : World} {v : Value} {xs : List Int} (h : RBox base ob W v xs) : v.ownBlock ≠ some ob := rowi_ne h.row h.cell (by decide)
theorem RBox.app {base ob : Nat} {W w1 : World} {v v1 : Value} {xs : List Int} {x : Int} (h : RBox base ob W v xs) (h1 : RowI w1 base v1 (xs ++ [x])) (hg : W.grownBy w1 v.ownBlock) : RBox base ob (w1.setCell ⟨ob, 0, none⟩ v1) v1 (xs ++ [x]) := by
 have hc := blk_grown h.cell hg (Ne.symm h.ne)
 exact ⟨by have := blk_set hc 0 v1; simpa using this, h1.move (fun k hk => Below.heap_setCell _ _ _ _ (fun e => rowi_ne h1 hc (by decide) (by rw [hk]; exact congrArg some e)))⟩
theorem RBox.move {base ob : Nat} {W W' : World} {v : Value} {xs : List Int} (h : RBox base ob W v xs) (hm : ∀ k, (k = ob ∨ v.ownBlock = some k) → W'.heap[k]? = W.heap[k]?) : RBox base ob W' v xs :=
 ⟨(hm _ (.inl rfl)).trans h.cell, h.row.move (fun k hk => hm k (.inr hk))⟩
theorem RBox.lt {base ob : Nat} {W : World} {v : Value} {xs : List Int} (h : RBox base ob W v xs) (k : Nat) (hk : k = ob ∨ v.ownBlock = some k) : k < W.heap.size := by
 rcases hk with rfl | hk
 ·exact blk_lt h.cell
 ·exact Kd.R_lt h.row k hk
structure Fill (w : World) (B ob : Nat) (fp : Nat → Prop) (W : World) (v : Value) (xs : List Int) : Prop where
 box : RBox w.heap.size ob W v xs
 be : Below w.heap.size w W
 fp : ∀ k, fp k ↔ k = ob ∨ v.ownBlock = some k
 far : ∀ k, v.ownBlock = some k → B ≤ k
theorem Fill.stable {w : World} {B ob : Nat} {Kp fp : Nat → Prop} {W W' : World} {v : Value} {xs : List Int} (h : Fill w B ob fp W v xs) (hk : ∀ k, k < w.heap.size → Kp k) (ha : Agree Kp fp W W') : Fill w B ob fp W' v xs :=
 ⟨h.box.move (fun k hk => ha.same k (h.box.lt k hk) (.inr ((h.fp k).2 hk))), h.be.trans ⟨ha.os, ha.tape, ha.output, ha.size, fun k hk' => ha.same k (Nat.lt_of_lt_of_le hk' h.be.size) (.inl (hk k hk'))⟩, h.fp, h.far⟩
theorem Fill.round {w : World} {B ob : Nat} {Kp fp : Nat → Prop} {W w1 : World} {v v1 : Value} {xs : List Int} {x : Int} (h : Fill w B ob fp W v xs) (hob : w.heap.size ≤ ob) (hnb : ¬ Kp ob) (hB : ∀ k, Kp k → k < B) (hBW : B ≤ W.heap.size) (h1 : RowI w1 w.heap.size v1 (xs ++ [x])) (hg : W.grownBy w1 v.ownBlock)
  (hat : v1.ownBlock = v.ownBlock ∨ ∃ b, v1.ownBlock = some b ∧ W.heap.size ≤ b) :
  Treads Kp fp (fun k => k = ob ∨ v1.ownBlock = some k) W (w1.setCell ⟨ob, 0, none⟩ v1) ∧ Fill w B ob (fun k => k = ob ∨ v1.ownBlock = some k) (w1.setCell ⟨ob, 0, none⟩ v1) v1 (xs ++ [x]) := by
 have hb := h.box.app h1 hg
 have hz : (w1.setCell ⟨ob, 0, none⟩ v1).heap.size = w1.heap.size := by simp
 have hsame : ∀ k, k < W.heap.size → k ≠ ob → v.ownBlock ≠ some k → (w1.setCell ⟨ob, 0, none⟩ v1).heap[k]? = W.heap[k]? := fun k hk h1 h2 => (Below.heap_setCell _ _ _ _ h1).trans (hg.block k hk (Ne.symm h2))
 refine ⟨⟨hg.os, hg.tape, hg.output, by rw [hz]; exact hg.size, fun k hk hf => ?_, fun k hk => hb.lt k hk, fun k hk => ?_⟩, hb, ?_, fun k => Iff.rfl, fun k hk => ?_⟩
 ·refine hsame k hk (fun e => ?_) (fun e => ?_)
  ·subst e
   rcases hf with hf | hf
   ·exact hnb hf
   ·exact hf ((h.fp _).2 (.inl rfl))
  ·rcases hf with hf | hf
   ·have := hB k hf; have := h.far k e; omega
   ·exact hf ((h.fp _).2 (.inr e))
 ·rcases hk with rfl | hk
  ·exact .inl ((h.fp _).2 (.inl rfl))
  ·rcases hat with hat | ⟨b, hb, hle⟩
   ·exact .inl ((h.fp _).2 (.inr (by rw [← hat]; exact hk)))
   ·rw [hb] at hk; cases hk; exact .inr hle
 ·exact (h.be.grown hg h.be.size (fun k e => Kd.R_base h.box.row k e)).setCell hob _
 ·rcases hat with hat | ⟨b, hb, hle⟩
  ·exact h.far k (by rw [← hat]; exact hk)
  ·rw [hb] at hk; cases hk; omega
set_option maxHeartbeats 4000000 in
set_option maxRecDepth 100000 in
theorem Reach_calls (n : Nat) (hn : n ≤ 1000) (A1 : Option Addr) (c1 : Nat) (l1 : List S55) (s : Int) (w : World) (hr1 : Kd.C k55 w A1 l1.length l1) (hc1 : l1.length ≤ c1) (hl : l1.length ≤ 10000)
  (hv : ∀ e ∈ l1, 0 ≤ e.f0 ∧ e.f0 < n ∧ 0 ≤ e.f1 ∧ e.f1 < n) :
  Calls Try.prog 24 #[.int .i64 n, .slice A1 l1.length c1, .int .i64 s] w fun e w' => ∃ v, e = .returned v ∧ KI.R 3 w' w.heap.size (fun _ => True) v (reachOf n l1 s) ∧ Below w.heap.size w w' := by
 refine (callsIn_wide (n := 2)).1 ?_
 refine callsIn_of_wp_marks Try.func24 rfl trivial ?_ rfl
 simp only [Try.ntmps24, List.size_toArray, List.length_cons, List.length_nil, Nat.reduceAdd, Nat.reduceSub, Array.replicate_succ, Array.replicate_zero, List.push_toArray, List.append_toArray, List.nil_append, List.cons_append]
 refine wpIn_wide.2 ?_
 have e0 : ∀ v : Value, reachOf n l1 s = [] → v = .slice none 0 0 → KI.R 3 w w.heap.size (fun _ => True) v (reachOf n l1 s) := by
  rintro v h rfl; rw [h]; exact Kd.R_nil KI 3 w w.heap.size (fun _ => True)
 by_cases h0 : s < 0
 ·go_wp2
  exact ⟨_, results_tmp rfl _ _ _, _, rfl, e0 _ (by simp [reachOf, h0]) rfl, Below.refl _ _⟩
 ·by_cases h1 : (n : Int) ≤ s
  ·go_wp2
   exact ⟨_, results_tmp rfl _ _ _, _, rfl, e0 _ (by simp [reachOf, h1]) rfl, Below.refl _ _⟩
  ·have E0 := Aside0.mk e0
   clear e0
   have hrA : Kd.C k55 (w.alloc (.cells #[.slice none 0 0] 26)) A1 l1.length l1 := Kd.C_below hr1 (below_alloc (Below.refl _ _) _)
   have HRA := Aside0.mk hrA
   have hfd := @field0
   clear hrA
   go_wp2_with (first
    | (go_at_call 44; refine (newGraph_calls n hn A1 c1 l1 _ HRA.out hc1 hl hv).mono ?_; rintro e W1 ⟨B1, B2, rfl, ⟨wK, hp, hk1, hk2⟩, hb⟩; have HP := Aside0.mk hp; have HK := Aside0.mk hk1; have HB := Aside0.mk hb; clear hp hk1 hk2 hb)
    | (go_at_call 43; refine (from_calls _ _ _ _ _).mono ?_; rintro e W0 ⟨rfl, hW0⟩; have HW0 := Aside0.mk hW0; clear hW0))
   have hb1 : Below (w.heap.size + 1) (w.alloc (.cells #[.slice none 0 0] 26)) W1 := by have := HB.out; simpa using this
   have hz1 : w.heap.size + 1 ≤ W1.heap.size := by have := hb1.size; simpa using this
   have hz0 : W0.heap.size = W1.heap.size + 2 := by rw [HW0.out]; simp
   have hw0 : Below W1.heap.size W1 W0 := by rw [HW0.out]; exact below_alloc (below_alloc (Below.refl _ _) _) _
   have hob : W0.heap[w.heap.size]? = some (.cells #[.slice none 0 0] 26 (0, 0)) := (hw0.block _ (by omega)).trans ((hb1.block _ (by omega)).trans (heap_alloc_new w _))
   have hbe : Below w.heap.size w W0 := (below_alloc (Below.refl _ w) _).trans ((hb1.mono (by omega)).trans (hw0.mono (by omega)))
   have hBn : W0.cell? ⟨W1.heap.size, 0, none⟩ = some (.slice (some ⟨B1, 0, none⟩) n n) := by rw [HW0.out]; exact (blk_cell (blk_alloc (blk_new W1 _) _) 0).trans rfl
   have hBs : W0.cell? ⟨W1.heap.size + 1, 0, none⟩ = some (.int .i64 s) := by rw [HW0.out]; have := blk_new (W1.alloc (.cells #[.slice (some ⟨B1, 0, none⟩) n n] 44)) (.cells #[.int .i64 s] 3); rw [World.size_alloc] at this; exact (blk_cell this 0).trans rfl
   obtain ⟨rows, hrows⟩ : ∃ rows, rows = tidy (built n l1 true) := ⟨_, rfl⟩
   have hN : rows.length = n := by rw [hrows, tidy_length, built_length]
   have hfits : Fits rows := by rw [hrows]; exact fits_tidy hv true
   have hlens : ∀ r ∈ rows, r.length ≤ 1000000 := by rw [hrows]; intro r hr; have := len_tidy n l1 true r hr; omega
   have HR : Aside0 (reachOf n l1 s = sortI ((fromOf rows s).map (·.1))) := ⟨by unfold reachOf; rw [if_neg (by omega), hrows]⟩
   have hseq := from_seqN 1 W1.heap.size (W1.heap.size + 1) n n (fun k => k < W0.heap.size ∧ k ≠ w.heap.size) (some ⟨B1, 0, none⟩) rows hN s hfits hn hlens (by omega) (by omega) wK (by rw [hrows]; exact HK.out) (Nat.le_refl _) W0
    (fun a v h => by
     obtain ⟨p1, p2, p3⟩ := HP.out a v h
     rw [World.size_alloc] at p1
     exact ⟨⟨by omega, by omega⟩, (hw0.cell p2).trans p3⟩) (fun k hk => hk.1) hBn hBs ⟨by omega, by omega⟩ ⟨by omega, by omega⟩
   have hflen := from_len rows s
   obtain ⟨all, hall⟩ : ∃ all, all = fromOf rows s := ⟨_, rfl⟩
   rw [← hall] at hseq hflen HR
   clear hall hrows hfits hlens hBn hBs HK HP HW0 HB hb1
   refine (wpIn_wide (n := 2)).1 ?_
   refine wpIn_rangeFunc_foot (α := Int × Int) rfl (by omega) (gf := 57) (lb := #[.pointer (some ⟨W1.heap.size, 0, none⟩), .pointer (some ⟨W1.heap.size + 1, 0, none⟩)]) rfl trivial (enters_of Try.func57 (by kernel_rfl) rfl)
    hseq (Below.refl _ _) (fun k hk => hk.1) (fun x => rfl)
    (fun pre fp W => ∃ v, Fill w W0.heap.size w.heap.size fp W v (pre.map (fun x : Int × Int => x.1))) (fun _ _ _ _ => False)
    (fun pre fp A B ⟨v, h⟩ ha => ⟨v, h.stable (fun k hk => ⟨by omega, by omega⟩) ha⟩) (fun _ _ _ _ _ h _ => h) (fun k => k = w.heap.size)
    ⟨_, ⟨hob, RowI.of (Kd.R_nil KI 3 W0 w.heap.size (fun _ => True))⟩, hbe, fun k => by simp [Value.ownBlock], fun k hk => by simp [Value.ownBlock] at hk⟩ (fun k hk => by subst hk; omega)
    (fun x => { tmps := #[.int .i64 n, .slice A1 l1.length c1, .int .i64 s, undef, undef, undef, .slice none 0 0, .pointer (some ⟨w.heap.size, 0, none⟩), .int .i64 x.1, .int .i64 s, .bool false, .bool false, .int .i64 s, .int .i64 n, .bool false, .bool false, .int .i64 n, .slice A1 l1.length c1,
     .agg #[.slice (some ⟨B1, 0, none⟩) n n, .slice (some ⟨B2, 0, none⟩) n n], .slice (some ⟨B1, 0, none⟩) n n, .int .i64 s, .func (.func 57) #[] #[.pointer (some ⟨W1.heap.size, 0, none⟩), .pointer (some ⟨W1.heap.size + 1, 0, none⟩)], .int .i64 x.1, .int .i64 x.2, undef, undef, undef, undef, undef, undef, undef], defers := [] }) ?assign ?body ?done ?stop
   case assign =>
    intro l x W K hK
    gi_wp2
    exact hK
   case body =>
    rintro l pre x fp W ⟨v, hF⟩ _ hKW hlen
    have hv1 : W.cell? ⟨w.heap.size, 0, none⟩ = some v := (blk_cell hF.box.cell 0).trans rfl
    have hrow := rowi_owns hF.box.row
    have HF := Aside0.mk hF
    have hlen := hlen.length_le
    rw [List.length_append, List.length_singleton] at hlen
    have hlen2 : (pre.map (fun x : Int × Int => x.1)).length ≤ 1001 := by rw [List.length_map]; omega
    have hle : w.heap.size ≤ W.heap.size := hF.be.size
    have hW0 : W0.heap.size ≤ W.heap.size := by
     by_cases h : W0.heap.size ≤ W.heap.size
     ·exact h
     ·exfalso
      have := hKW (W0.heap.size - 1) ⟨by omega, by omega⟩
      omega
    clear hF
    obtain ⟨i0, hi, hz1', hz2', hz3'⟩ := info_parts It.info3
    gi_wp2_with (first
     | (gi_at_builtin; go_loud (refine wpListIn_append_own_at _ rfl _ _ 26 rfl w.heap.size 3 i0 (.int .i64 0) 1 8 Try.underlying26 hi hz1' hz2' hz3' rfl (by decide) v _ _ rfl (hrow.alloc _) ⟨W.heap.size, 0, none⟩ 1 1 [.int .i64 x.1] rfl rfl (cell_one_new _ _ _) (by simp [Value.oneCell']) (by unfold maxLen; omega) (by omega) (by rw [World.size_alloc]; omega) ?_); intro v' w1 hown' hgrow _ hat; obtain ⟨g', cap', rfl⟩ := ownsRow_succ hown'
        have hT := HF.out.round (Kp := fun k => k < W0.heap.size ∧ k ≠ w.heap.size) (Nat.le_refl _) (fun h => h.2 rfl) (fun k hk => hk.1) hW0 (rowi_of (v := .slice (some ⟨g', 0, none⟩) ((pre.map (fun x : Int × Int => x.1)).length + 1) cap') (xs := pre.map (fun x : Int × Int => x.1) ++ [x.1]) (by rw [List.length_append, List.length_singleton, List.map_append]; exact hown')) ((World.grownBy_alloc W _ _).trans hgrow) (by
         rcases hat with hat | hat
         ·exact .inl hat
         ·exact .inr ⟨_, hat, by simp⟩)
        have hc1 := (blk_cell (blk_grown (blk_alloc HF.out.box.cell (.cells #[.int .i64 x.1] 3)) hgrow (Ne.symm HF.out.box.ne)) 0).trans rfl
        have hf1 := blk_frozen (blk_grown (blk_alloc HF.out.box.cell (.cells #[.int .i64 x.1] 3)) hgrow (Ne.symm HF.out.box.ne)) 0
        simp only [List.length_map] at hT
        have HT := Aside0.mk hT
        clear hT))
    exact ⟨_, HT.out.1, _, by rw [List.map_append]; exact HT.out.2⟩
   case done =>
    rintro D xs fp W hD hfD rfl ⟨v, hF⟩ hK _
    have hv1 : W.cell? ⟨w.heap.size, 0, none⟩ = some v := (blk_cell hF.box.cell 0).trans rfl
    have hlen2 : (xs.map (fun x : Int × Int => x.1)).length ≤ 1000000 := by rw [List.length_map]; omega
    have HF := Aside0.mk hF
    have HKD := Aside0.mk hK
    have hDv : v.ownBlock ≠ some D := fun e => hfD ((hF.fp D).2 (.inr e))
    clear hF hK
    go_wp2_with (go_at_call 45; refine (sort_row W w.heap.size v _ HF.out.box.row hlen2).mono ?_; rintro e W2 ⟨rfl, hr, hg⟩; have hv2 : W2.cell? ⟨w.heap.size, 0, none⟩ = some v := (blk_cell (blk_grown HF.out.box.cell hg (Ne.symm HF.out.box.ne)) 0).trans rfl; have HRo := Aside0.mk hr; have HG := Aside0.mk hg; clear hr hg)
    have hK2 := blk_grown HKD.out HG.out (Ne.symm hDv)
    refine ⟨by simp, .inl ⟨_, _, rfl, run_takeDeferred hK2, ?_⟩⟩
    refine ⟨_, results_tmp rfl _ _ _, v, rfl, ?_, ?_⟩
    ·rw [HR.out]
     exact (HRo.out.move (fun k hk => World.putObj_heap_other (fun e => hDv (by rw [hk, e])))).any
    ·have hb := HF.out.be.grown HG.out HF.out.be.size (fun k e => Kd.R_base HF.out.box.row k e)
     exact hb.trans (belowK_b (w := w) (Nat.le_refl _) W2 D _ _ (by omega) hK2 rfl rfl)
   case stop =>
    rintro D c pre fp W _ _ _ h
    exact h.elim
end Go.Proofs.Ytlldjinejckbaaa.Rc

end
section
namespace Go.Proofs.Ytlldjinejckbaaa.Lc
open Go Go.RowKit Go.Proofs.YtlldjinejckbaaaW.PrintWords Go.Proofs.YtlldjinejckbaaaW.PrintLast Go.Proofs.YtlldjinejckbaaaW.PrintMore
open Go.Proofs.Ytlldjinejckbaaa.It Go.Proofs.Ytlldjinejckbaaa.Mod Go.Proofs.Ytlldjinejckbaaa.Foot Go.Proofs.Ytlldjinejckbaaa.Gs Go.Proofs.Ytlldjinejckbaaa.Lb Go.Proofs.Ytlldjinejckbaaa.Ng Go.Proofs.Ytlldjinejckbaaa.Fr
set_option linter.unusedVariables false
set_option linter.unusedSimpArgs false
theorem cells_of {w : World} {A : Option Addr} {n : Nat} {xs : List Int} (h : KI.C w A n xs) : xs.length = n ∧ (xs = [] ∨ ∃ b off, A = some ⟨b, off, none⟩ ∧ ∀ j, j < xs.length → w.cell? ⟨b, off + j, none⟩ = some (.int .i64 (xs.getD j 0))) := by
 have hl : xs.length = n := h.1
 refine ⟨hl, ?_⟩
 by_cases h0 : xs = []
 ·exact .inl h0
 ·right
  have hp : 0 < xs.length := List.length_pos_iff.2 h0
  obtain ⟨⟨b, off, sp⟩, hA, hc⟩ := Kd.at_int h 0 (by omega) (by omega)
  have hs : sp = none := by
   cases sp with
   | none => rfl
   | some p =>
    simp only [Addr.add, Int.toNat_zero, if_pos] at hc
    unfold World.cell? at hc
    simp at hc
    split at hc <;> simp at hc
  subst hs
  refine ⟨b, off, hA, fun j hj => ?_⟩
  obtain ⟨ad, hA2, hc2⟩ := Kd.at_int h (j : Int) (by omega) (by omega)
  rw [hA] at hA2
  injection hA2 with hA2
  subst hA2
  have e : (⟨b, off, none⟩ : Addr).add (j : Int).toNat = ⟨b, off + j, none⟩ := by
   unfold Addr.add
   rw [Int.toNat_natCast]
   split
   ·subst_vars; rfl
   ·rfl
  rw [e] at hc2
  rw [hc2]
  simp [rd]
theorem contains_row (wK w : World) (A : Option Addr) (n c : Nat) (xs : List Int) (x : Int) (h : KI.C wK A n xs) (hc : ∀ a v, wK.cell? a = some v → w.cell? a = some v) (hs : n ≤ 1000000) :
  Calls Try.prog 66 #[.slice A n c, .int .i64 x] w fun e w' => e = .returned (.bool (xs.contains x)) ∧ w' = w := by
 obtain ⟨hl, h | ⟨b, off, rfl, hcell⟩⟩ := cells_of h
 ·subst h
  obtain rfl : 0 = n := hl
  refine (Try.slices_Contains_int_empty A c x w).mono ?_
  rintro e w' ⟨rfl, rfl⟩
  exact ⟨by simp, rfl⟩
 ·refine (Try.slices_Contains_int b off n c xs x w (by omega) (by omega) (fun j hj => hc _ _ (hcell j hj))).mono ?_
  rintro e w' ⟨rfl, rfl⟩
  rw [← hl, List.take_length]
  exact ⟨rfl, rfl⟩
theorem index_row (wK w : World) (A : Option Addr) (n c : Nat) (xs : List Int) (x : Int) (h : KI.C wK A n xs) (hc : ∀ a v, wK.cell? a = some v → w.cell? a = some v) (hs : n ≤ 1000000) :
  Calls Try.prog 47 #[.slice A n c, .int .i64 x] w fun e w' => e = .returned (.int .i64 (Lib.idxOf xs x)) ∧ w' = w := by
 obtain ⟨hl, h | ⟨b, off, rfl, hcell⟩⟩ := cells_of h
 ·subst h
  obtain rfl : 0 = n := hl
  exact Try.slices_Index_int_empty A c x w
 ·refine (Try.slices_Index_int b off n c xs x w (by omega) (by omega) (fun j hj => hc _ _ (hcell j hj))).mono ?_
  rintro e w' ⟨rfl, rfl⟩
  rw [← hl, List.take_length]
  exact ⟨rfl, rfl⟩
theorem clone_row (w : World) (A : Option Addr) (n c : Nat) (xs : List Int) (h : KI.C w A n xs) (hs : n ≤ 1000000) :
  Calls Try.prog 48 #[.slice A n c] w fun e w' => ∃ v, e = .returned v ∧ RowI w' w.heap.size v xs ∧ Below w.heap.size w w' := by
 obtain ⟨hl, h | ⟨b, off, rfl, hcell⟩⟩ := cells_of h
 ·subst h
  obtain rfl : 0 = n := hl
  cases A with
  | none =>
   refine (Try.slices_Clone_int_nil 0 c w).mono ?_
   rintro e w' ⟨rfl, rfl⟩
   exact ⟨_, rfl, RowI.of (Kd.R_nil KI 3 _ _ (fun _ => True)), Below.refl _ _⟩
  | some a =>
   refine (Try.slices_Clone_int_zero a c w).mono ?_
   rintro e w' ⟨v', rfl, ho, _, hb⟩
   exact ⟨_, rfl, rowi_of ho, hb⟩
 ·refine (Try.slices_Clone_int b off n c xs w (by omega) (by omega) (fun j hj => hcell j hj)).mono ?_
  rintro e w' ⟨v', rfl, ho, _, hb⟩
  subst hl
  rw [List.take_length] at ho
  exact ⟨_, rfl, rowi_of ho, hb⟩
theorem search_row (w : World) (A : Option Addr) (n c : Nat) (xs : List Int) (x : Int) (h : KI.C w A n xs) (hs : n ≤ 1000000) (ho : xs.Pairwise (· ≤ ·)) :
  Calls Try.prog 51 #[.slice A n c, .int .i64 x] w fun e w' => e = .returned (.tuple #[.int .i64 (xs.countP (· < x) : Nat), .bool (xs.contains x)]) ∧ ∃ q, w' = w.drewN q := by
 obtain ⟨hl, h | ⟨b, off, rfl, hcell⟩⟩ := cells_of h
 ·subst h
  obtain rfl : 0 = n := hl
  refine (Try.slices_BinarySearch_int_empty A c x w).mono ?_
  rintro e w' ⟨rfl, rfl⟩
  exact ⟨by simp, 0, by rfl⟩
 ·refine (Try.slices_BinarySearch_int b off n c xs x w (by omega) (by omega) (fun j hj => hcell j hj) (by rw [← hl, List.take_length]; exact ho)).mono ?_
  rintro e w' ⟨rfl, hq⟩
  rw [← hl, List.take_length]
  exact ⟨rfl, hq⟩
end Go.Proofs.Ytlldjinejckbaaa.Lc

end
section
namespace Go.Proofs.Ytlldjinejckbaaa.Gi
open Go Go.RowKit Go.Proofs.YtlldjinejckbaaaW.PrintWords Go.Proofs.YtlldjinejckbaaaW.PrintLast Go.Proofs.YtlldjinejckbaaaW.PrintMore
open Go.Proofs.Ytlldjinejckbaaa.It Go.Proofs.Ytlldjinejckbaaa.Mod Go.Proofs.Ytlldjinejckbaaa.Foot Go.Proofs.Ytlldjinejckbaaa.Gs Go.Proofs.Ytlldjinejckbaaa.Lb Go.Proofs.Ytlldjinejckbaaa.Ng Go.Proofs.Ytlldjinejckbaaa.Fr Go.Proofs.Ytlldjinejckbaaa.Rc Go.Proofs.Ytlldjinejckbaaa.Lc
set_option linter.unusedVariables false
set_option linter.unusedSimpArgs false
attribute [local go_sem] Oper.semAt_some
theorem relax_mem (v y : Int) : ∀ (xs far q : List Int), y ∈ (relax v xs far q).2 → y ∈ q ∨ y ∈ xs
 | [], far, q, h => .inl h
 | x :: xs, far, q, h => by
  unfold relax at h
  split at h
  ·rcases relax_mem v y xs _ _ h with h | h
   ·rcases List.mem_append.1 h with h | h
    ·exact .inl h
    ·exact .inr (by simp at h; simp [h])
   ·exact .inr (List.mem_cons_of_mem _ h)
  ·rcases relax_mem v y xs _ _ h with h | h
   ·exact .inl h
   ·exact .inr (List.mem_cons_of_mem _ h)
theorem bfs_mem {rows : List (List Int)} (hf : Fits rows) : ∀ (k : Nat) (far q : List Int), (∀ y ∈ q, 0 ≤ y ∧ y < rows.length) → ∀ x ∈ bfs rows k far q, 0 ≤ x.1 ∧ x.1 < rows.length
 | 0, _, _, _, x, h => by simp [bfs] at h
 | _ + 1, _, [], _, x, h => by simp [bfs] at h
 | k + 1, far, v :: q, hq, x, h => by
  unfold bfs at h
  rcases List.mem_cons.1 h with h | h
  ·subst h; exact hq v (by simp)
  ·refine bfs_mem hf k _ _ (fun y hy => ?_) x h
   rcases relax_mem _ _ _ _ _ hy with hy | hy
   ·exact hq y (List.mem_cons_of_mem _ hy)
   ·exact fits_row hf v y hy
theorem from_mem {rows : List (List Int)} (hf : Fits rows) {s : Int} (h0 : 0 ≤ s) (h1 : s < rows.length) : ∀ x ∈ fromOf rows s, 0 ≤ x.1 ∧ x.1 < rows.length :=
 bfs_mem hf _ _ _ (fun y hy => by simp at hy; subst hy; exact ⟨h0, h1⟩)
structure Fix (W0 : World) (ob : Nat) (fp : Nat → Prop) (W : World) (t : TypeId) (cs : Array Value) : Prop where
 g : W0.grownBy W (some ob)
 c : W.heap[ob]? = some (.cells cs t (0, 0))
 fp : ∀ k, fp k ↔ k = ob
 lt : ob < W0.heap.size
theorem Fix.stable {W0 : World} {ob : Nat} {fp : Nat → Prop} {W W' : World} {t : TypeId} {cs : Array Value} (h : Fix W0 ob fp W t cs) (ha : Agree (fun k => k < W0.heap.size ∧ k ≠ ob) fp W W') : Fix W0 ob fp W' t cs :=
 ⟨⟨ha.os.trans h.g.os, ha.tape.trans h.g.tape, ha.output.trans h.g.output, Nat.le_trans h.g.size ha.size, fun k hk hne => (ha.same k (Nat.lt_of_lt_of_le hk h.g.size) (.inl ⟨hk, fun e => hne (congrArg some e)⟩)).trans (h.g.block k hk hne)⟩,
  (ha.same ob (blk_lt h.c) (.inr ((h.fp ob).2 rfl))).trans h.c, h.fp, h.lt⟩
theorem Fix.set {W0 : World} {ob : Nat} {fp : Nat → Prop} {W : World} {t : TypeId} {cs : Array Value} (h : Fix W0 ob fp W t cs) (i : Nat) (v : Value) :
  Treads (fun k => k < W0.heap.size ∧ k ≠ ob) fp fp W (W.setCell ⟨ob, i, none⟩ v) ∧ Fix W0 ob fp (W.setCell ⟨ob, i, none⟩ v) t (cs.setIfInBounds i v) := by
 have hz : (W.setCell ⟨ob, i, none⟩ v).heap.size = W.heap.size := by simp
 have hs : ∀ k, k ≠ ob → (W.setCell ⟨ob, i, none⟩ v).heap[k]? = W.heap[k]? := fun k hk => Below.heap_setCell _ _ _ _ hk
 refine ⟨⟨rfl, rfl, rfl, by rw [hz]; exact Nat.le_refl _, fun k hk hf => hs k (fun e => ?_), fun k hk => ?_, fun k hk => .inl hk⟩, ⟨h.g.os, h.g.tape, h.g.output, by rw [hz]; exact h.g.size, fun k hk hne => (hs k (fun e => hne (congrArg some e))).trans (h.g.block k hk hne)⟩, blk_set h.c i v, h.fp, h.lt⟩
 ·rcases hf with hf | hf
  ·exact hf.2 e
  ·exact hf ((h.fp k).2 e)
 ·rw [hz, (h.fp k).1 hk]; exact blk_lt h.c
theorem Fix.keep {W0 : World} {ob : Nat} {fp : Nat → Prop} {W : World} {t : TypeId} {cs : Array Value} (h : Fix W0 ob fp W t cs) : Treads (fun k => k < W0.heap.size ∧ k ≠ ob) fp fp W W :=
 ⟨rfl, rfl, rfl, Nat.le_refl _, fun _ _ _ => rfl, fun k hk => by rw [(h.fp k).1 hk]; exact blk_lt h.c, fun k hk => .inl hk⟩
theorem Fix.cell {W0 : World} {ob : Nat} {fp : Nat → Prop} {W : World} {t : TypeId} {cs : Array Value} (h : Fix W0 ob fp W t cs) {a : Addr} {v : Value} (hc : W0.cell? a = some v) (hne : a.block ≠ ob) : W.cell? a = some v :=
 (World.cell?_of_block (h.g.block _ (World.block_lt_of_cell? _ _ hc) (fun e => hne (by injection e)))).trans hc
theorem Fix.drew {W0 : World} {ob : Nat} {fp : Nat → Prop} {W : World} {t : TypeId} {cs : Array Value} (h : Fix W0 ob fp W t cs) : Fix W0 ob fp W.drew t cs := ⟨⟨h.g.os, h.g.tape, h.g.output, h.g.size, h.g.block⟩, h.c, h.fp, h.lt⟩
theorem alloc5 (w : World) (o1 o2 o3 o4 o5 : Obj) : (((((w.alloc o1).alloc o2).alloc o3).alloc o4).alloc o5).heap[w.heap.size]? = some o1 ∧ (((((w.alloc o1).alloc o2).alloc o3).alloc o4).alloc o5).heap[w.heap.size + 1]? = some o2 ∧ (((((w.alloc o1).alloc o2).alloc o3).alloc o4).alloc o5).heap[w.heap.size + 1 + 1]? = some o3 ∧
  (((((w.alloc o1).alloc o2).alloc o3).alloc o4).alloc o5).heap[w.heap.size + 1 + 1 + 1]? = some o4 ∧ (((((w.alloc o1).alloc o2).alloc o3).alloc o4).alloc o5).heap[w.heap.size + 1 + 1 + 1 + 1]? = some o5 ∧ (((((w.alloc o1).alloc o2).alloc o3).alloc o4).alloc o5).heap.size = w.heap.size + 5 ∧ Below w.heap.size w (((((w.alloc o1).alloc o2).alloc o3).alloc o4).alloc o5) := by
 have h2 := blk_new (w.alloc o1) o2
 have h3 := blk_new ((w.alloc o1).alloc o2) o3
 have h4 := blk_new (((w.alloc o1).alloc o2).alloc o3) o4
 have h5 := blk_new ((((w.alloc o1).alloc o2).alloc o3).alloc o4) o5
 simp only [World.size_alloc] at h2 h3 h4 h5
 exact ⟨blk_alloc (blk_alloc (blk_alloc (blk_alloc (blk_new w o1) _) _) _) _, blk_alloc (blk_alloc (blk_alloc h2 _) _) _, blk_alloc (blk_alloc h3 _) _, blk_alloc h4 _, h5, by simp only [World.size_alloc], below_alloc (below_alloc (below_alloc (below_alloc (below_alloc (Below.refl _ _) _) _) _) _) _⟩
theorem Treads.undrew {Kp fp fp' : Nat → Prop} {W W' : World} (h : Treads Kp fp fp' W.drew W') : Treads Kp fp fp' W W' := ⟨h.os, h.tape, h.output, h.size, h.same, h.lt, h.old⟩
theorem blk_put {W : World} {ob D : Nat} {t : TypeId} {cs : Array Value} (h : W.heap[ob]? = some (.cells cs t (0, 0))) (o : Obj) (hne : ob ≠ D) : (W.putObj D o).heap[ob]? = some (.cells cs t (0, 0)) := (World.putObj_heap_other hne).trans h
theorem below_grown {w0 W : World} {ob B : Nat} (h : w0.grownBy W (some ob)) (hB : B ≤ ob) (hz : B ≤ w0.heap.size) : Below B w0 W :=
 ⟨h.os, h.tape, h.output, h.size, fun k hk => h.block k (by omega) (fun e => by injection e; omega)⟩
theorem results_cell3 {fn : Func} {p : Tmp} {v : Value} (h : fn.results = #[.cell p 3]) (tmps : Array Value) (w : World) (g : Nat) (hp : tmps.getD p undef = .pointer (some ⟨g, 0, none⟩)) (hc : w.cell? ⟨g, 0, none⟩ = some v) : (results fn tmps).run Try.prog w = .ok v w := by
 have hp' : tmps[p]?.getD undef = .pointer (some ⟨g, 0, none⟩) := by simpa using hp
 simp [results, h, hp', asAddr, go_sem, hc]
def girthOf (rows : List (List Int)) (v : Int) : Int := match (fromOf rows v).find? (fun x => (row rows x.1).contains v) with
 | some x => wrap64 (x.2 + 1)
 | none => 0
set_option maxHeartbeats 4000000 in
set_option maxRecDepth 100000 in
theorem girth_calls (n : Nat) (hn : n ≤ 1000) (B1 B2 : Nat) (rows : List (List Int)) (hN : rows.length = n) (hfits : Fits rows) (hlens : ∀ r ∈ rows, r.length ≤ 1000000) (v : Int) (h0 : 0 ≤ v) (h1 : v < n) (w wK : World)
  (hp : ∀ a u, wK.cell? a = some u → w.cell? a = some u) (hk : Kd.C KR wK (some ⟨B1, 0, none⟩) n rows) :
  Calls Try.prog 53 #[.agg #[.slice (some ⟨B1, 0, none⟩) n n, .slice (some ⟨B2, 0, none⟩) n n], .int .i64 v] w fun e w' => e = .returned (.int .i64 (girthOf rows v)) ∧ Below w.heap.size w w' := by
 refine (callsIn_wide (n := 2)).1 ?_
 refine callsIn_of_wp_marks Try.func53 rfl trivial ?_ rfl
 simp only [Try.ntmps53, List.size_toArray, List.length_cons, List.length_nil, Nat.reduceAdd, Nat.reduceSub, Array.replicate_succ, Array.replicate_zero, List.push_toArray, List.append_toArray, List.nil_append, List.cons_append]
 refine wpIn_wide.2 ?_
 have HP := Aside0.mk hp
 clear hp
 go_wp2_with (go_at_call 43; refine (from_calls _ _ _ _ _).mono ?_; rintro e W0 ⟨rfl, hW0⟩; have HW0 := Aside0.mk hW0; clear hW0)
 obtain ⟨gb, hgb⟩ : ∃ gb, gb = w.heap.size := ⟨_, rfl⟩
 obtain ⟨vb, hvb⟩ : ∃ vb, vb = w.heap.size + 1 := ⟨_, rfl⟩
 obtain ⟨ob, hob⟩ : ∃ ob, ob = w.heap.size + 1 + 1 := ⟨_, rfl⟩
 obtain ⟨bn, hbn⟩ : ∃ bn, bn = w.heap.size + 1 + 1 + 1 := ⟨_, rfl⟩
 obtain ⟨bs, hbs⟩ : ∃ bs, bs = w.heap.size + 1 + 1 + 1 + 1 := ⟨_, rfl⟩
 have hf : W0.heap[w.heap.size]? = some (.cells #[.slice (some ⟨B1, 0, none⟩) n n, .slice (some ⟨B2, 0, none⟩) n n] 73 (0, 0)) ∧ W0.heap[w.heap.size + 1]? = some (.cells #[.int .i64 v] 3 (0, 0)) ∧ W0.heap[w.heap.size + 1 + 1]? = some (.cells #[.int .i64 0] 3 (0, 0)) ∧
   W0.heap[w.heap.size + 1 + 1 + 1]? = some (.cells #[.slice (some ⟨B1, 0, none⟩) n n] 44 (0, 0)) ∧ W0.heap[w.heap.size + 1 + 1 + 1 + 1]? = some (.cells #[.int .i64 v] 3 (0, 0)) ∧ W0.heap.size = w.heap.size + 5 ∧ Below w.heap.size w W0 := by
  rw [HW0.out]
  exact alloc5 w _ _ _ _ _
 rw [← hbs, ← hbn, ← hob, ← hvb, ← hgb] at hf
 obtain ⟨hc1, hc2, hc3, hc4, hc5, hz0, hbe⟩ := hf
 have HBE := Aside0.mk hbe
 have hK0 : ∀ a u, wK.cell? a = some u → (a.block < W0.heap.size ∧ a.block ≠ ob) ∧ W0.cell? a = some u := fun a u h => by
  have h2 := HP.out a u h
  have h3 := World.block_lt_of_cell? _ _ h2
  exact ⟨⟨by omega, by omega⟩, (hbe.cell (by omega)).trans h2⟩
 have hseq := from_seqN 1 bn bs n n (fun k => k < W0.heap.size ∧ k ≠ ob) (some ⟨B1, 0, none⟩) rows hN v hfits hn hlens h0 h1 wK hk (Nat.le_refl _) W0 hK0 (fun k hk => hk.1) ((blk_cell hc4 0).trans rfl) ((blk_cell hc5 0).trans rfl) ⟨by omega, by omega⟩ ⟨by omega, by omega⟩
 have HK0 := Aside0.mk hK0
 have HC1 := Aside0.mk hc1
 have HC2 := Aside0.mk hc2
 have HC3 := Aside0.mk hc3
 have HGB := Aside0.mk (And.intro hgb (And.intro hvb (And.intro hob (And.intro hbn hbs))))
 rw [← hbs, ← hbn, ← hob, ← hvb, ← hgb]
 clear hc1 hc2 hc3 hc4 hc5 hbe hK0 HW0 hgb hvb hob hbn hbs
 refine (wpIn_wide (n := 2)).1 ?_
 refine wpIn_rangeFunc_foot (α := Int × Int) rfl (by omega) (gf := 57) (lb := #[.pointer (some ⟨bn, 0, none⟩), .pointer (some ⟨bs, 0, none⟩)]) rfl trivial (enters_of Try.func57 (by kernel_rfl) rfl)
  hseq (Below.refl _ _) (fun k hk => hk.1) (fun x => rfl)
  (fun pre fp W => Fix W0 ob fp W 3 #[.int .i64 0] ∧ ∀ y ∈ pre, (row rows y.1).contains v = false)
  (fun c pre fp W => c = .ret ∧ ∃ p x, pre = p ++ [x] ∧ (∀ y ∈ p, (row rows y.1).contains v = false) ∧ (row rows x.1).contains v = true ∧ Fix W0 ob fp W 3 #[.int .i64 (wrap64 (x.2 + 1))])
  (fun pre fp A B h ha => ⟨h.1.stable ha, h.2⟩) (fun c pre fp A B h ha => by obtain ⟨hc, p, x, h1, h2, h3, h4⟩ := h; exact ⟨hc, p, x, h1, h2, h3, h4.stable ha⟩) (fun k => k = ob)
  ⟨⟨grown_of_below (Below.refl _ _) _, HC3.out, fun _ => Iff.rfl, by have := HGB.out; omega⟩, fun y hy => by simp at hy⟩ (fun k hk => by subst hk; have := HGB.out; omega)
  (fun x => { tmps := #[.agg #[.slice (some ⟨B1, 0, none⟩) n n, .slice (some ⟨B2, 0, none⟩) n n], .int .i64 v, .pointer (some ⟨gb, 0, none⟩), .pointer (some ⟨vb, 0, none⟩), .pointer (some ⟨ob, 0, none⟩), .int .i64 x.1, .int .i64 x.2, .pointer (some ⟨gb, 0, none⟩), .slice (some ⟨B1, 0, none⟩) n n, .int .i64 v,
   .func (.func 57) #[] #[.pointer (some ⟨bn, 0, none⟩), .pointer (some ⟨bs, 0, none⟩)], .int .i64 x.1, .int .i64 x.2, undef, undef, undef, undef, undef, undef, undef, undef, undef], defers := [] }) ?assign ?body ?done ?stop
 case assign =>
  intro l x W K hK
  gi_wp2
  exact hK
 case body =>
  rintro l pre x fp W ⟨hF, hpre⟩ _ hKW hlen
  obtain ⟨hx0, hx1⟩ := from_mem hfits h0 (by omega) x (hlen.subset (by simp))
  obtain ⟨ad, A0, c0, hA, hrc, hrl, hRr⟩ := at_row hk x.1 hx0 (by omega)
  obtain rfl : (⟨B1, 0, none⟩ : Addr) = ad := by injection hA
  clear hA
  rw [add_plain] at hrc
  have hcell : ∀ a u, wK.cell? a = some u → W.cell? a = some u := fun a u h => hF.cell (HK0.out a u h).2 (HK0.out a u h).1.2
  have k1 : W.cell? ⟨gb, 0, none⟩ = some (.slice (some ⟨B1, 0, none⟩) n n) := hF.cell ((blk_cell HC1.out 0).trans rfl) (by have := HGB.out; show gb ≠ ob; omega)
  have k2 : W.cell? ⟨vb, 0, none⟩ = some (.int .i64 v) := hF.cell ((blk_cell HC2.out 0).trans rfl) (by have := HGB.out; show vb ≠ ob; omega)
  have k3 := hcell _ _ hrc
  have k4 : W.cell? ⟨ob, 0, none⟩ = some (.int .i64 0) := (blk_cell hF.c 0).trans rfl
  have HCELL := Aside0.mk hcell
  have HF := Aside0.mk hF
  have hlR : (row rows x.1).length ≤ 1000000 := hlens _ (row_mem hx0 (by omega))
  have hx2 : x.1 < n := by omega
  clear hcell hF hrc
  have hmx : Try.prog.follows .mixedOrders = true := by kernel_rfl
  have k5 := blk_frozen HF.out.c 0
  obtain ⟨b, hb⟩ : ∃ b, b = (row rows x.1).contains v := ⟨_, rfl⟩
  have hcall : Calls Try.prog 66 #[.slice A0 (row rows x.1).length c0, .int .i64 v] W.drew fun e w' => e = .returned (.bool b) ∧ w' = W.drew := by
   rw [hb]; exact contains_row wK W.drew A0 _ c0 (row rows x.1) v hRr (fun a u h => HCELL.out a u h) hlR
  have HB := Aside0.mk hb
  clear hb
  gi_wp2
  cases b with
  | false =>
   gi_region_with_o (refine ⟨trivial, rfl, ?_⟩; gi_at_call 66; refine (CallsIn.inRound l (callsIn_wide.2 hcall)).mono ?_; rintro e W' ⟨rfl, rfl⟩)
   all_goals
    gi_wp2
    exact ⟨fp, Treads.undrew HF.out.drew.keep, HF.out.drew, fun y hy => by
     rcases List.mem_append.1 hy with hy | hy
     ·exact hpre y hy
     ·simp only [List.mem_singleton] at hy; subst hy; exact HB.out.symm⟩
  | true =>
   gi_region_with_o (refine ⟨trivial, rfl, ?_⟩; gi_at_call 66; refine (CallsIn.inRound l (callsIn_wide.2 hcall)).mono ?_; rintro e W' ⟨rfl, rfl⟩)
   all_goals
    gi_wp2
    exact ⟨fp, Treads.undrew (HF.out.drew.set 0 _).1, rfl, pre, x, rfl, hpre, HB.out.symm, (HF.out.drew.set 0 (.int .i64 (wrap64 (x.2 + 1)))).2⟩
 case done =>
  rintro D xs fp W hD hfD rfl ⟨hF, hall⟩ hK _
  have k4 : W.cell? ⟨ob, 0, none⟩ = some (.int .i64 0) := (blk_cell hF.c 0).trans rfl
  have k5 := blk_frozen hF.c 0
  have HKD := Aside0.mk hK
  have HF := Aside0.mk hF
  have hDo : D ≠ ob := fun e => hfD ((hF.fp D).2 e)
  clear hK hF
  have HAll := Aside0.mk hall
  clear hall
  go_wp2
  have hs := HF.out.set 0 (.int .i64 0)
  have hK2 : (W.setCell ⟨ob, 0, none⟩ (.int .i64 0)).heap[D]? = some (.deferred (some [])) := (Below.heap_setCell _ _ _ _ hDo).trans HKD.out
  refine ⟨by simp, .inl ⟨_, _, rfl, run_takeDeferred hK2, ?_⟩⟩
  refine ⟨_, results_cell3 rfl _ _ ob rfl ((blk_cell (blk_put hs.2.c _ (fun e => hDo e.symm)) 0).trans rfl), ?_, ?_⟩
  ·have e : girthOf rows v = 0 := by
    unfold girthOf
    rw [List.find?_eq_none.2 (fun y hy => by rw [HAll.out y hy]; simp)]
   rw [e]
   rfl
  ·have hb : Below w.heap.size W0 (W.setCell ⟨ob, 0, none⟩ (.int .i64 0)) := below_grown hs.2.g (by have := HGB.out; omega) (by have := HGB.out; omega)
   have hbe := HBE.out
   rw [HGB.out.1] at hbe
   exact (hbe.trans hb).trans (belowK_b (w := w) (Nat.le_refl _) _ D _ _ (by have := HGB.out; omega) hK2 rfl rfl)
 case stop =>
  rintro D c pre fp W hD hfD hpre ⟨rfl, p, x, hpx, hp1, hx, hF⟩ hK _
  have k4 : W.cell? ⟨ob, 0, none⟩ = some (.int .i64 (wrap64 (x.2 + 1))) := (blk_cell hF.c 0).trans rfl
  have HKD := Aside0.mk hK
  have HF := Aside0.mk hF
  have hDo : D ≠ ob := fun e => hfD ((hF.fp D).2 e)
  clear hK hF
  refine wpIn_wide.2 ?_
  go_wp2
  refine ⟨by simp, .inl ⟨_, _, rfl, run_takeDeferred HKD.out, ?_⟩⟩
  refine ⟨_, results_cell3 rfl _ _ ob rfl ((blk_cell (blk_put HF.out.c _ (fun e => hDo e.symm)) 0).trans rfl), ?_, ?_⟩
  ·obtain ⟨rest, hr⟩ := hpre
   have e : girthOf rows v = wrap64 (x.2 + 1) := by
    unfold girthOf
    rw [← hr, hpx, List.append_assoc, List.find?_append, List.find?_eq_none.2 (fun y hy => by rw [hp1 y hy]; simp)]
    simp only [Option.none_or, List.singleton_append, List.find?_cons, hx]
   rw [e]
   rfl
  ·have hb : Below w.heap.size W0 W := below_grown HF.out.g (by have := HGB.out; omega) (by have := HGB.out; omega)
   have hbe := HBE.out
   rw [HGB.out.1] at hbe
   exact (hbe.trans hb).trans (belowK_b (w := w) (Nat.le_refl _) _ D _ _ (by have := HGB.out; omega) HKD.out rfl rfl)
end Go.Proofs.Ytlldjinejckbaaa.Gi

end
section
namespace Go.Proofs.Ytlldjinejckbaaa.Cl
open Go.Proofs.Ytlldjinejckbaaa.PD (pV pU tV bz)
open Go Go.RowKit Go.Proofs.YtlldjinejckbaaaW.PrintWords Go.Proofs.YtlldjinejckbaaaW.PrintLast Go.Proofs.YtlldjinejckbaaaW.PrintMore
open Go.Proofs.Ytlldjinejckbaaa.It Go.Proofs.Ytlldjinejckbaaa.Mod Go.Proofs.Ytlldjinejckbaaa.Foot Go.Proofs.Ytlldjinejckbaaa.Gs Go.Proofs.Ytlldjinejckbaaa.Lb Go.Proofs.Ytlldjinejckbaaa.Ng Go.Proofs.Ytlldjinejckbaaa.Fr Go.Proofs.Ytlldjinejckbaaa.Rc Go.Proofs.Ytlldjinejckbaaa.Lc Go.Proofs.Ytlldjinejckbaaa.Gi
set_option linter.unusedVariables false
set_option linter.unusedSimpArgs false
abbrev Nd (n : Nat) := { x : Int // 0 ≤ x ∧ x < (n : Int) }
def hits (left : List Int) (first best : Int) (len : Nat) (y : Int) : Bool := y != first && rd left y == wrap64 (best - len)
def cl.T1 : Bool × List (List Nat × List Nat) := (true, [([], []), ([], []), ([0, 1], [0, 1]), ([2], [2]), ([3], [3]), ([3], [3]), ([4, 5, 3], [3, 4, 5]), ([6, 3], [3, 6]), ([3], [3]), ([3], [3]), ([9, 3], [3, 9]), ([8, 10, 3], [3, 8, 10]), ([7, 11, 3], [3, 7, 11]), ([3, 12], [3, 12]), ([13, 3, 0, 1, 2, 3, 4, 5, 6, 7, 8, 9, 10, 11, 12, 13], [13])])
def cl.B1 : List Nat := [0, 0, 3, 7, 15, 15, 63, 127, 15, 15, 527, 1807, 4095, 8191, 16383]
theorem cl.tab1 : rtab .any (opsOf Try.f55 1) = cl.T1 := by kernel_rfl
theorem cl.bits1 : waitsOk cl.T1.2 cl.B1 = true := by kernel_rfl
set_option maxHeartbeats 2000000 in
theorem closure_calls (n : Nat) (fb lb bb ob L lc : Nat) (left : List Int) (first best : Int) (A : Option Addr) (m c : Nat) (hl : left.length = n) (w : World)
  (h1 : w.cell? ⟨fb, 0, none⟩ = some (.int .i64 first)) (h2 : w.cell? ⟨lb, 0, none⟩ = some (.slice (some ⟨L, 0, none⟩) n lc)) (h3 : w.cell? ⟨bb, 0, none⟩ = some (.int .i64 best)) (h4 : w.cell? ⟨ob, 0, none⟩ = some (.slice A m c))
  (h5 : ∀ y : Int, 0 ≤ y → y < n → w.cell? ⟨L, y.toNat, none⟩ = some (.int .i64 (rd left y))) (x : Int) (hx0 : 0 ≤ x) (hx1 : x < n) :
  Calls Try.prog 55 #[.int .i64 x, .pointer (some ⟨fb, 0, none⟩), .pointer (some ⟨lb, 0, none⟩), .pointer (some ⟨bb, 0, none⟩), .pointer (some ⟨ob, 0, none⟩)] w fun e w' => e = .returned (.bool (hits left first best m x)) ∧ ∃ q, w' = w.drewN q := by
 have h6 := h5 x hx0 hx1
 clear h5
 go_enter Try.func55, Try.ntmps55
 by_cases hf : x = first
 ·subst hf
  go_upto_region 1 with (fail)
  refine start_ (n := 15) (S := fun w' => w'.cell? ⟨fb, 0, none⟩ = some (.int .i64 x)) (ds := []) #[false, false, false, false, false, false, false, false, false, false, false, false, false, false, false] (by kernel_rfl) rfl rfl h1 (fun hHeld => ?_); refine with_tabW cl.tab1 cl.bits1 (fun HT_ HW_ => ?_)
  refine pV 0 7 (bz 15 0x1) HT_.out ?_
  refine take_ (i := 1) (N := (some 8)) (v := ?_) (a' := ?_) (bz 15 0x3) rfl rfl (take_ofW HT_.out HW_.out (by kernel_rfl)) (fun _ _ _ h => h) (Or.inl ⟨by rfl, ?_⟩) hHeld ?_ ?_
  rotate_left
  ·intro w' s0
   go_simp
   with_reducible rfl
  rotate_left
  ·simp only [Act.put, List.setIfInBounds_toArray, List.set_cons_zero, List.set_cons_succ, i64_w, i32_w]
   rfl
  refine pV 2 9 (bz 15 0x7) HT_.out ?_
  refine pV 3 10 (bz 15 0xf) HT_.out ?_
  refine pU 4 11 (bz 15 0x1f) HT_.out ?_
  refine pU 5 12 (bz 15 0x3f) HT_.out ?_
  refine pU 6 13 (bz 15 0x7f) HT_.out ?_
  refine pU 7 14 (bz 15 0xff) HT_.out ?_
  refine pU 8 15 (bz 15 0x1ff) HT_.out ?_
  refine pU 9 16 (bz 15 0x3ff) HT_.out ?_
  refine pU 10 17 (bz 15 0x7ff) HT_.out ?_
  refine pU 11 18 (bz 15 0xfff) HT_.out ?_
  refine pU 12 19 (bz 15 0x1fff) HT_.out ?_
  refine pV 13 20 (bz 15 0x3fff) HT_.out ?_
  refine pV 14 6 (bz 15 0x7fff) HT_.out ?_
  refine done_ (done_of HT_.out (by kernel_rfl)) ?_
  go_wp2
  refine bodyPost_ret (results_tmp rfl _ _ _) rfl ?_
  exact ⟨by simp [hits], 1, rfl⟩
 ·have hf1 : (x != first) = true := by simpa using hf
  go_upto_region 1 with (fail)
  refine start_ (n := 15) (S := fun w' => w'.cell? ⟨fb, 0, none⟩ = some (.int .i64 first) ∧ w'.cell? ⟨lb, 0, none⟩ = some (.slice (some ⟨L, 0, none⟩) n lc) ∧ w'.cell? ⟨bb, 0, none⟩ = some (.int .i64 best) ∧ w'.cell? ⟨ob, 0, none⟩ = some (.slice A m c) ∧ w'.cell? ⟨L, x.toNat, none⟩ = some (.int .i64 (rd left x))) (ds := []) #[false, false, false, false, false, false, false, false, false, false, false, false, false, false, false] (by kernel_rfl) rfl rfl ⟨h1, h2, h3, h4, h6⟩ (fun hHeld => ?_); refine with_tabW cl.tab1 cl.bits1 (fun HT_ HW_ => ?_)
  refine pV 0 7 (bz 15 0x1) HT_.out ?_
  refine tV 1 8 (bz 15 0x3) HT_.out HW_.out hHeld rfl rfl (by rintro w' ⟨s0, s1, s2, s3, s4⟩; go_simp; with_reducible rfl) ?_
  refine pV 2 9 (bz 15 0x7) HT_.out ?_
  refine pV 3 10 (bz 15 0xf) HT_.out ?_
  refine pV 5 12 (bz 15 0x2f) HT_.out ?_
  refine tV 4 11 (bz 15 0x3f) HT_.out HW_.out hHeld rfl rfl (by rintro w' ⟨s0, s1, s2, s3, s4⟩; go_simp; with_reducible rfl) ?_
  refine pV 6 13 (bz 15 0x7f) HT_.out ?_
  refine tV 7 14 (bz 15 0xff) HT_.out HW_.out hHeld rfl rfl (by rintro w' ⟨s0, s1, s2, s3, s4⟩; go_simp; with_reducible rfl) ?_
  refine tV 8 15 (bz 15 0x1ff) HT_.out HW_.out hHeld rfl rfl (by rintro w' ⟨s0, s1, s2, s3, s4⟩; go_simp; with_reducible rfl) ?_
  refine tV 9 16 (bz 15 0x3ff) HT_.out HW_.out hHeld rfl rfl (by rintro w' ⟨s0, s1, s2, s3, s4⟩; go_simp; with_reducible rfl) ?_
  refine pV 10 17 (bz 15 0x7ff) HT_.out ?_
  refine pV 11 18 (bz 15 0xfff) HT_.out ?_
  refine pV 12 19 (bz 15 0x1fff) HT_.out ?_
  refine pV 13 20 (bz 15 0x3fff) HT_.out ?_
  refine pV 14 6 (bz 15 0x7fff) HT_.out ?_
  refine done_ (done_of HT_.out (by kernel_rfl)) ?_
  go_wp2
  refine bodyPost_ret (results_tmp rfl _ _ _) rfl ?_
  exact ⟨by simp [hits, hf], 1, rfl⟩
theorem index_fn (n : Nat) (fb lb bb ob L lc : Nat) (left : List Int) (first best : Int) (A A0 : Option Addr) (m c c0 : Nat) (r : List Int) (y : Int) (hl : left.length = n) (w wK : World) (hrow : KI.C wK A0 r.length r) (hK : ∀ a v, wK.cell? a = some v → w.cell? a = some v)
  (hr : ∀ x ∈ r, 0 ≤ x ∧ x < (n : Int)) (hrs : r.length ≤ 1000000) (hfind : r.find? (hits left first best m) = some y)
  (h1 : w.cell? ⟨fb, 0, none⟩ = some (.int .i64 first)) (h2 : w.cell? ⟨lb, 0, none⟩ = some (.slice (some ⟨L, 0, none⟩) n lc)) (h3 : w.cell? ⟨bb, 0, none⟩ = some (.int .i64 best)) (h4 : w.cell? ⟨ob, 0, none⟩ = some (.slice A m c))
  (h5 : ∀ y : Int, 0 ≤ y → y < n → w.cell? ⟨L, y.toNat, none⟩ = some (.int .i64 (rd left y))) :
  Calls Try.prog 54 #[.slice A0 r.length c0, .func (.func 55) #[] #[.pointer (some ⟨fb, 0, none⟩), .pointer (some ⟨lb, 0, none⟩), .pointer (some ⟨bb, 0, none⟩), .pointer (some ⟨ob, 0, none⟩)]] w fun e w' =>
   ∃ i : Int, e = .returned (.int .i64 i) ∧ 0 ≤ i ∧ i < r.length ∧ rd r i = y ∧ ∃ q, w' = w.drewN q := by
 obtain ⟨hy, k, hk, hyk, hlt⟩ := List.find?_eq_some_iff_getElem.1 hfind
 obtain ⟨_, h0 | ⟨b, off, rfl, hcell⟩⟩ := cells_of hrow
 ·subst h0; simp at hk
 have hyn := hr _ (List.getElem_mem hk)
 haveI : Inhabited (Nd n) := ⟨⟨r[k], hyn⟩⟩
 obtain ⟨zs, hzs⟩ : ∃ zs : List (Nd n), zs = r.pmap (fun x h => (⟨x, h⟩ : Nd n)) hr := ⟨_, rfl⟩
 have hzl : zs.length = r.length := by rw [hzs]; simp
 have hz : ∀ j, j < r.length → (zs[j]!).1 = r.getD j 0 := fun j hj => by
  rw [getElem!_pos zs j (by omega)]
  subst hzs
  simp [hj]
 have hcon := AnyE.slices_IndexFunc Try.laysH6_f54 (fun x : Nd n => Value.int .i64 x.1) (fun x => hits left first best m x.1) 55 #[.pointer (some ⟨fb, 0, none⟩), .pointer (some ⟨lb, 0, none⟩), .pointer (some ⟨bb, 0, none⟩), .pointer (some ⟨ob, 0, none⟩)]
  (enters_of Try.func55 (by kernel_rfl) rfl) b off r.length c0 zs w
  (fun W x hb => closure_calls n fb lb bb ob L lc left first best A m c hl W (pw_cell_below hb h1) (pw_cell_below hb h2) (pw_cell_below hb h3) (pw_cell_below hb h4) (fun y h0 h1 => pw_cell_below hb (h5 y h0 h1)) x.1 x.2.1 x.2.2)
  (by omega) (by omega) (fun j hj => by rw [hz j (by omega)]; exact hK _ _ (hcell j (by omega)))
 refine Calls.mono (P := Try.prog) (f := 54) hcon ?_
 rintro e w' ⟨rfl, hq⟩
 have hi : Lib.idxBy (fun _ y : Nd n => hits left first best m y.1) (zs.take r.length) default = (k : Int) :=
  Lib.idxBy_hit _ zs r.length k _ hk (by omega) (by show hits left first best m (zs[k]!).1 = true; rw [hz k hk, List.getD_eq_getElem?_getD, List.getElem?_eq_getElem hk]; show hits left first best m r[k] = true; rw [hyk]; exact hy)
   (fun j hj => by show hits left first best m (zs[j]!).1 = false; rw [hz j (by omega), List.getD_eq_getElem?_getD, List.getElem?_eq_getElem (by omega)]; have := hlt j hj; simpa using this)
 refine ⟨k, by rw [hi], by omega, by omega, ?_, hq⟩
 unfold rd
 rw [Int.toNat_natCast, List.getD_eq_getElem?_getD, List.getElem?_eq_getElem hk]
 exact hyk
end Go.Proofs.Ytlldjinejckbaaa.Cl

end
section
namespace Go.Proofs.Ytlldjinejckbaaa.Cy
open Go Go.RowKit Go.Proofs.YtlldjinejckbaaaW.PrintWords Go.Proofs.YtlldjinejckbaaaW.PrintLast Go.Proofs.YtlldjinejckbaaaW.PrintMore
open Go.Proofs.Ytlldjinejckbaaa.It Go.Proofs.Ytlldjinejckbaaa.Mod Go.Proofs.Ytlldjinejckbaaa.Foot Go.Proofs.Ytlldjinejckbaaa.Gs Go.Proofs.Ytlldjinejckbaaa.Lb Go.Proofs.Ytlldjinejckbaaa.Ng Go.Proofs.Ytlldjinejckbaaa.Fr Go.Proofs.Ytlldjinejckbaaa.Rc Go.Proofs.Ytlldjinejckbaaa.Lc Go.Proofs.Ytlldjinejckbaaa.Gi Go.Proofs.Ytlldjinejckbaaa.Cl Go.Proofs.Ytlldjinejckbaaa.PD
set_option linter.unusedVariables false
set_option linter.unusedSimpArgs false
attribute [local go_sem] Oper.semAt_some
def lastOf (out : List Int) : Int := rd out (out.length - 1)
def cycGo (rows : List (List Int)) (left : List Int) (first best : Int) : Nat → List Int → Option (List Int)
 | 0, out => if (out.length : Int) < best then none else some out
 | k + 1, out => if (out.length : Int) < best then (match (row rows (lastOf out)).find? (hits left first best out.length) with
  | some y => cycGo rows left first best k (out ++ [y])
  | none => none) else some out
def pick1 (rows : List (List Int)) (s : Int × Int) (v : Int) : Int × Int := if 0 < girthOf rows v ∧ (s.1 = 0 ∨ girthOf rows v < s.1) then (girthOf rows v, v) else s
def least1 (rows : List (List Int)) (k : Nat) : Int × Int := (List.range k).foldl (fun s (v : Nat) => pick1 rows s (v : Int)) (0, 0)
theorem least1_succ (rows : List (List Int)) (k : Nat) : least1 rows (k + 1) = pick1 rows (least1 rows k) k := by unfold least1; rw [List.range_succ, List.foldl_append]; rfl
theorem least1_node (rows : List (List Int)) (k : Nat) : (least1 rows k).1 ≠ 0 → 0 ≤ (least1 rows k).2 ∧ (least1 rows k).2 < k := by
 induction k with
 | zero => intro h; exact absurd rfl h
 | succ k ih =>
  rw [least1_succ]
  unfold pick1
  split
  ·intro _; exact ⟨by simp, by simp; omega⟩
  ·intro h; have := ih h; omega
def leftOf (n : Nat) (pre : List (Int × Int)) : List Int := pre.foldl (fun l x => l.set x.1.toNat x.2) (List.replicate n 0)
theorem leftOf_len (n : Nat) (pre : List (Int × Int)) : (leftOf n pre).length = n := by
 unfold leftOf
 have : ∀ (pre : List (Int × Int)) (l : List Int), (pre.foldl (fun l x => l.set x.1.toNat x.2) l).length = l.length := by
  intro pre
  induction pre with
  | nil => intro l; rfl
  | cons x pre ih => intro l; rw [List.foldl_cons, ih]; simp
 rw [this]; simp
theorem leftOf_snoc (n : Nat) (pre : List (Int × Int)) (x : Int × Int) : leftOf n (pre ++ [x]) = (leftOf n pre).set x.1.toNat x.2 := by unfold leftOf; rw [List.foldl_append]; rfl
def cycleOf (n : Nat) (l : List S55) : Option (List Int × Int) :=
 if (least1 (tidy (built n l true)) n).1 = 0 then some ([], 4) else if 1000000 < (least1 (tidy (built n l true)) n).1 then none else
  (cycGo (tidy (built n l true)) (leftOf n (fromOf (tidy (built n l false)) (least1 (tidy (built n l true)) n).2)) (least1 (tidy (built n l true)) n).2 (least1 (tidy (built n l true)) n).1 (least1 (tidy (built n l true)) n).1.toNat [(least1 (tidy (built n l true)) n).2]).map fun r => (r, 0)
structure CSt (w wr wK : World) (gb bb fb B1 B2 n : Nat) (best first : Int) : Prop where
 g : wr.heap[gb]? = some (.cells #[.slice (some ⟨B1, 0, none⟩) n n, .slice (some ⟨B2, 0, none⟩) n n] 73 (0, 0))
 b : wr.heap[bb]? = some (.cells #[.int .i64 best] 3 (0, 0))
 f : wr.heap[fb]? = some (.cells #[.int .i64 first] 3 (0, 0))
 p : ∀ a v, wK.cell? a = some v → (a.block ≠ gb ∧ a.block ≠ bb ∧ a.block ≠ fb ∧ w.heap.size ≤ a.block) ∧ wr.cell? a = some v
 be : Below w.heap.size w wr
 gbb : w.heap.size ≤ gb
 bbb : w.heap.size ≤ bb
 fbb : w.heap.size ≤ fb
 bf : bb ≠ fb
section
variable {w wr w1 wK : World} {gb bb fb B1 B2 n : Nat} {best first : Int}
theorem CSt.later (h : CSt w wr wK gb bb fb B1 B2 n best first) (hb : Below wr.heap.size wr w1) : CSt w w1 wK gb bb fb B1 B2 n best first :=
 ⟨(hb.block _ (blk_lt h.g)).trans h.g, (hb.block _ (blk_lt h.b)).trans h.b, (hb.block _ (blk_lt h.f)).trans h.f, fun a v hv => ⟨(h.p a v hv).1, pw_cell_below hb (h.p a v hv).2⟩, h.be.trans (hb.mono h.be.size), h.gbb, h.bbb, h.fbb, h.bf⟩
theorem CSt.put (h : CSt w wr wK gb bb fb B1 B2 n best first) (x y : Int) : CSt w ((wr.setCell ⟨bb, 0, none⟩ (.int .i64 x)).setCell ⟨fb, 0, none⟩ (.int .i64 y)) wK gb bb fb B1 B2 n x y := by
 have hgb : gb ≠ bb := blk_ne h.g h.b (by decide)
 have hgf : gb ≠ fb := blk_ne h.g h.f (by decide)
 refine ⟨blk_far (blk_far h.g hgb _) hgf _, ?_, ?_, fun a v hv => ⟨(h.p a v hv).1, ?_⟩, (h.be.setCell h.bbb _).setCell h.fbb _, h.gbb, h.bbb, h.fbb, h.bf⟩
 ·have := blk_far (blk_set h.b 0 (.int .i64 x)) (p := ⟨fb, 0, none⟩) h.bf (.int .i64 y); simpa using this
 ·have := blk_set (blk_far h.f (p := ⟨bb, 0, none⟩) (Ne.symm h.bf) (.int .i64 x)) 0 (.int .i64 y); simpa using this
 ·obtain ⟨⟨p1, p2, p3, _⟩, p4⟩ := h.p a v hv
  exact (World.cell?_of_block ((Below.heap_setCell _ _ _ _ p3).trans (Below.heap_setCell _ _ _ _ p2))).trans p4
end
theorem alloc3 (w : World) (o1 o2 o3 : Obj) : (((w.alloc o1).alloc o2).alloc o3).heap[w.heap.size]? = some o1 ∧ (((w.alloc o1).alloc o2).alloc o3).heap[w.heap.size + 1]? = some o2 ∧ (((w.alloc o1).alloc o2).alloc o3).heap[w.heap.size + 1 + 1]? = some o3 ∧ Below w.heap.size w (((w.alloc o1).alloc o2).alloc o3) := by
 have h2 := blk_new (w.alloc o1) o2
 have h3 := blk_new ((w.alloc o1).alloc o2) o3
 simp only [World.size_alloc] at h2 h3
 exact ⟨blk_alloc (blk_alloc (blk_new w o1) _) _, blk_alloc h2 _, h3, below_alloc (below_alloc (below_alloc (Below.refl _ _) _) _) _⟩
theorem CSt.fix {w W0 W wK : World} {gb bb fb B1 B2 n : Nat} {best first : Int} {Lb : Nat} {fp : Nat → Prop} {t : TypeId} {cs : Array Value} (h : CSt w W0 wK gb bb fb B1 B2 n best first) (hF : Fix W0 Lb fp W t cs) (hl : gb < Lb ∧ bb < Lb ∧ fb < Lb) (hw : w.heap.size ≤ Lb) (hp : ∀ a u, wK.cell? a = some u → (a.block < W0.heap.size ∧ a.block ≠ Lb) ∧ W0.cell? a = some u) : CSt w W wK gb bb fb B1 B2 n best first :=
 ⟨blk_grown h.g hF.g (fun e => by injection e; omega), blk_grown h.b hF.g (fun e => by injection e; omega), blk_grown h.f hF.g (fun e => by injection e; omega), fun a v hv => ⟨(h.p a v hv).1, hF.cell (h.p a v hv).2 (hp a v hv).1.2⟩, h.be.trans (Gi.below_grown hF.g hw (Nat.le_trans hw (Nat.le_of_lt hF.lt))), h.gbb, h.bbb, h.fbb, h.bf⟩
theorem alloc4' (w : World) (o1 o2 o3 o4 : Obj) : ((((w.alloc o1).alloc o2).alloc o3).alloc o4).heap[w.heap.size]? = some o1 ∧ ((((w.alloc o1).alloc o2).alloc o3).alloc o4).heap[w.heap.size + 1]? = some o2 ∧ ((((w.alloc o1).alloc o2).alloc o3).alloc o4).heap[w.heap.size + 1 + 1]? = some o3 ∧
  ((((w.alloc o1).alloc o2).alloc o3).alloc o4).heap[w.heap.size + 1 + 1 + 1]? = some o4 ∧ ((((w.alloc o1).alloc o2).alloc o3).alloc o4).heap.size = w.heap.size + 4 ∧ Below w.heap.size w ((((w.alloc o1).alloc o2).alloc o3).alloc o4) := by
 have h2 := blk_new (w.alloc o1) o2
 have h3 := blk_new ((w.alloc o1).alloc o2) o3
 have h4 := blk_new (((w.alloc o1).alloc o2).alloc o3) o4
 simp only [World.size_alloc] at h2 h3 h4
 exact ⟨blk_alloc (blk_alloc (blk_alloc (blk_new w o1) _) _) _, blk_alloc (blk_alloc h2 _) _, blk_alloc h3 _, h4, by simp only [World.size_alloc], below_alloc (below_alloc (below_alloc (below_alloc (Below.refl _ _) _) _) _) _⟩
def OnlyEnd (Q : Exit → Act → World → Prop) : Exit → Act → World → Prop
 | .normal, a, w => Q .normal a w
 | _, _, _ => False
theorem only_end {P : Program} {c : Code} {Q : Exit → Act → World → Prop} {a : Act} {w : World} (h : c.wp P (OnlyEnd Q) a w) : c.wp P Q a w :=
 wp_mono h (fun e a w he => by cases e <;> first | exact he | exact he.elim)
theorem made0 (n : Nat) : madeCells #[(.int .i64 0 : Value)] n = ((List.replicate n (0 : Int)).map (Value.int .i64)).toArray := by
 apply Array.ext
 ·simp [madeCells]
 ·intro i h1 h2
  simp [madeCells, Nat.mod_one]
theorem set_ints (l : List Int) (i : Nat) (x : Int) : ((l.map (Value.int .i64)).toArray).setIfInBounds i (.int .i64 x) = ((l.set i x).map (Value.int .i64)).toArray := by
 simp [List.map_set]
theorem ints_cell {W : World} {L : Nat} {l : List Int} (h : W.heap[L]? = some (.cells (l.map (Value.int .i64)).toArray 3 (0, 0))) (x : Int) (h0 : 0 ≤ x) (h1 : x < l.length) : W.cell? ⟨L, x.toNat, none⟩ = some (.int .i64 (rd l x)) := by
 rw [blk_cell h]
 unfold rd
 rw [List.getD_eq_getElem?_getD, List.getElem?_toArray, List.getElem?_map, List.getElem?_eq_getElem (by omega)]
 rfl
def cy.T21 : Bool × List (List Nat × List Nat) := (true, [([], []), ([], []), ([1], [1]), ([], []), ([2, 3], [2, 3]), ([4], [4]), ([], []), ([5, 6], [5, 6]), ([7], [7]), ([8], [8]), ([0, 9], [0, 9]), ([10, 10, 0, 1, 2, 3, 4, 5, 6, 7, 8, 9, 10], [10])])
def cy.B21 : List Nat := [0, 0, 2, 0, 14, 30, 0, 126, 254, 510, 1023, 2047]
theorem cy.tab21 : rtab .any (opsOf Try.f36 21) = cy.T21 := by kernel_rfl
theorem cy.bits21 : waitsOk cy.T21.2 cy.B21 = true := by kernel_rfl
set_option maxHeartbeats 4000000 in
set_option maxRecDepth 100000 in
theorem Cycle_calls (n : Nat) (hn : n ≤ 1000) (A1 : Option Addr) (c1 : Nat) (l1 : List S55) (r1 : List Int) (r2 : Int) (w : World) (hr1 : Kd.C k55 w A1 l1.length l1) (hc1 : l1.length ≤ c1) (hl : l1.length ≤ 10000)
  (hv : ∀ e ∈ l1, 0 ≤ e.f0 ∧ e.f0 < n ∧ 0 ≤ e.f1 ∧ e.f1 < n) (h : cycleOf n l1 = some (r1, r2)) :
  Calls Try.prog 36 #[.int .i64 n, .slice A1 l1.length c1] w fun e w' => ∃ v, e = .returned (.tuple #[v, .int .i64 r2]) ∧ KI.R 3 w' w.heap.size (fun _ => True) v r1 ∧ Below w.heap.size w w' := by
 refine (callsIn_wide (n := 2)).1 ?_
 refine callsIn_of_wp_marks Try.func36 rfl trivial ?_ rfl
 simp only [Try.ntmps36, List.size_toArray, List.length_cons, List.length_nil, Nat.reduceAdd, Nat.reduceSub, Array.replicate_succ, Array.replicate_zero, List.push_toArray, List.append_toArray, List.nil_append, List.cons_append]
 refine wpIn_wide.2 ?_
 have HH := Aside0.mk h
 clear h
 go_upto_region 3 with (go_at_call 44; refine (newGraph_calls n hn A1 c1 l1 _ hr1 hc1 hl hv).mono ?_; rintro e W1 ⟨B1, B2, rfl, ⟨wK, hp, hk1, hk2⟩, hb⟩; have HP := Aside0.mk hp; have HK := Aside0.mk (And.intro hk1 hk2); have HB := Aside0.mk hb; clear hp hk1 hk2 hb)
 obtain ⟨rows, hrows⟩ : ∃ rows, rows = tidy (built n l1 true) := ⟨_, rfl⟩
 obtain ⟨prevs, hprevs⟩ : ∃ prevs, prevs = tidy (built n l1 false) := ⟨_, rfl⟩
 have hN : rows.length = n := by rw [hrows, tidy_length, built_length]
 have hNp : prevs.length = n := by rw [hprevs, tidy_length, built_length]
 have hfits : Fits rows := by rw [hrows]; exact fits_tidy hv true
 have hfitsp : Fits prevs := by rw [hprevs]; exact fits_tidy hv false
 have hlens : ∀ r ∈ rows, r.length ≤ 1000000 := by rw [hrows]; intro r hr; have := len_tidy n l1 true r hr; omega
 have hlensp : ∀ r ∈ prevs, r.length ≤ 1000000 := by rw [hprevs]; intro r hr; have := len_tidy n l1 false r hr; omega
 have HH2 := HH.out
 have HK2 := HK.out
 unfold cycleOf at HH2
 rw [← hrows, ← hprevs] at HH2
 rw [← hrows, ← hprevs] at HK2
 have HHm := Aside0.mk HH2
 have HKm := Aside0.mk HK2
 have hz1 : w.heap.size ≤ W1.heap.size := HB.out.size
 have hb3 := alloc3 W1 (.cells #[.slice (some ⟨B1, 0, none⟩) n n, .slice (some ⟨B2, 0, none⟩) n n] 73) (.cells #[.int .i64 0] 3) (.cells #[.int .i64 0] 3)
 have HS : Aside0 (CSt w (((W1.alloc (.cells #[.slice (some ⟨B1, 0, none⟩) n n, .slice (some ⟨B2, 0, none⟩) n n] 73)).alloc (.cells #[.int .i64 0] 3)).alloc (.cells #[.int .i64 0] 3)) wK W1.heap.size (W1.heap.size + 1) (W1.heap.size + 1 + 1) B1 B2 n (least1 rows 0).1 (least1 rows 0).2) :=
  ⟨⟨hb3.1, hb3.2.1, hb3.2.2.1, fun a v h => by
   obtain ⟨p1, p2, p3⟩ := HP.out a v h
   exact ⟨⟨by omega, by omega, by omega, p1⟩, pw_cell_below hb3.2.2.2 p3⟩, HB.out.trans (hb3.2.2.2.mono hz1), hz1, by omega, by omega, by omega⟩⟩
 clear HH2 HK2 HH HK HP HB hb3 hrows hprevs hv hr1
 generalize (((W1.alloc (.cells #[.slice (some ⟨B1, 0, none⟩) n n, .slice (some ⟨B2, 0, none⟩) n n] 73)).alloc (.cells #[.int .i64 0] 3)).alloc (.cells #[.int .i64 0] 3)) = W2 at HS ⊢
 generalize W1.heap.size + 1 + 1 = fb at HS ⊢
 generalize W1.heap.size + 1 = bb at HS ⊢
 generalize W1.heap.size = gb at HS hz1 ⊢
 go_wp2
 go_loopg [21] (n + 1) (fun m v wr => ∃ k : Nat, v = .int .i64 k ∧ k ≤ n ∧ n < m + k ∧ Aside0 (CSt w wr wK gb bb fb B1 B2 n (least1 rows k).1 (least1 rows k).2))
 case atStart => exact ⟨0, rfl, Nat.zero_le _, by omega, HS⟩
 case round =>
  clear HS
  obtain ⟨k, rfl, hk1, hk2, HS⟩ := hrel
  by_cases hlt : k < n
  ·have kg0 := (blk_cell HS.out.g 0).trans rfl
   have kg1 := (blk_cell HS.out.g 1).trans rfl
   have hltI : ((k : Int) < (n : Int)) := by omega
   go_upto_region 7 with (go_at_call 53; refine (girth_calls n hn B1 B2 rows hN hfits hlens (k : Int) (by omega) (by omega) wr wK (fun a v h => (HS.out.p a v h).2) HKm.out.1).mono ?_; rintro e W3 ⟨rfl, hb⟩; have HS3 := Aside0.mk (HS.out.later hb); clear hb)
   obtain ⟨d, hd⟩ : ∃ d, d = girthOf rows k := ⟨_, rfl⟩
   obtain ⟨be, hbe⟩ : ∃ be, be = (least1 rows k).1 := ⟨_, rfl⟩
   obtain ⟨fi, hfi⟩ : ∃ fi, fi = (least1 rows k).2 := ⟨_, rfl⟩
   have hstep : least1 rows (k + 1) = if 0 < d ∧ (be = 0 ∨ d < be) then (d, (k : Int)) else (be, fi) := by rw [least1_succ, hd, hbe, hfi]; rfl
   rw [← hd]
   rw [← hbe, ← hfi] at HS3
   have HST := Aside0.mk hstep
   clear hstep hd hbe hfi kg0 kg1 HS
   have kb : W3.cell? ⟨bb, 0, none⟩ = some (.int .i64 be) := (blk_cell HS3.out.b 0).trans rfl
   have kf : W3.cell? ⟨fb, 0, none⟩ = some (.int .i64 fi) := (blk_cell HS3.out.f 0).trans rfl
   have kfb := blk_frozen HS3.out.b 0
   have kff := blk_frozen HS3.out.f 0
   have hbf : bb ≠ fb := HS3.out.bf
   have hfb : fb ≠ bb := Ne.symm hbf
   obtain ⟨m1, rfl⟩ : ∃ m1, gk = m1 + 1 := ⟨gk - 1, by omega⟩
   by_cases h1 : 0 < d
   ·by_cases h2 : be = 0
    ·subst h2
     go_wp2
     go_roundg m1
     case measure => omega
     case rel => exact ⟨k + 1, by go_num, by omega, by omega, ⟨by rw [HST.out, if_pos (by first | omega | (simp; omega) | simp [h1])]; exact HS3.out.put d k⟩⟩
    ·have h2b : (be == 0) = false := by simpa using h2
     by_cases h3 : d < be
     ·go_wp2
      go_roundg m1
      case measure => omega
      case rel => exact ⟨k + 1, by go_num, by omega, by omega, ⟨by rw [HST.out, if_pos (by omega)]; exact HS3.out.put d k⟩⟩
     ·go_wp2
      go_roundg m1
      case measure => omega
      case rel => exact ⟨k + 1, by go_num, by omega, by omega, ⟨by rw [HST.out, if_neg (by omega)]; exact HS3.out⟩⟩
   ·go_wp2
    go_roundg m1
    case measure => omega
    case rel => exact ⟨k + 1, by go_num, by omega, by omega, ⟨by rw [HST.out, if_neg (by omega)]; exact HS3.out⟩⟩
  ·obtain rfl : k = n := by omega
   obtain ⟨be, hbe⟩ : ∃ be, be = (least1 rows k).1 := ⟨_, rfl⟩
   obtain ⟨fi, hfi⟩ : ∃ fi, fi = (least1 rows k).2 := ⟨_, rfl⟩
   have hnode := least1_node rows k
   rw [← hbe, ← hfi] at HS HHm hnode
   clear hbe hfi
   have kb : wr.cell? ⟨bb, 0, none⟩ = some (.int .i64 be) := (blk_cell HS.out.b 0).trans rfl
   have kf : wr.cell? ⟨fb, 0, none⟩ = some (.int .i64 fi) := (blk_cell HS.out.f 0).trans rfl
   by_cases h0 : be = 0
   ·have HH3 := HHm.out
    rw [if_pos h0] at HH3
    have hh := Option.some.inj HH3
    injection hh with hh1 hh2
    subst h0
    go_wp2
    subst hh1 hh2
    exact ⟨_, results_tmp2 rfl _ _ _, _, rfl, Kd.R_nil KI 3 _ _ (fun _ => True), HS.out.be⟩
   ·have HH3 := HHm.out
    have h0b : (be == 0) = false := by simpa using h0
    by_cases hbig : 1000000 < be
    ·rw [if_neg h0, if_pos hbig] at HH3; exact absurd HH3 (by simp)
    rw [if_neg h0, if_neg hbig] at HH3
    obtain ⟨r, hr, hrr⟩ := Option.map_eq_some_iff.1 HH3
    injection hrr with hrr1 hrr2
    subst hrr1 hrr2
    have HR := Aside0.mk hr
    obtain ⟨hn0, hn1⟩ := hnode h0
    have hmk := print_make_int (P := Try.prog) 26 3 (.int .i64 0) 8 Try.underlying26 It.info3 rfl (by omega) (k : Int) (by omega) (by simp; omega)
    rw [Int.toNat_natCast] at hmk
    have kg1 : wr.cell? ⟨gb, 1, none⟩ = some (.slice (some ⟨B2, 0, none⟩) k k) := (blk_cell HS.out.g 1).trans rfl
    clear HH3 HHm hr hnode
    go_upto_region 13 with (fail)
    have kg5 : ((wr.alloc (.cells (madeCells #[.int .i64 0] k) 3)).alloc (.cells #[.slice (some ⟨wr.heap.size, 0, none⟩) k k] 26)).cell? ⟨gb, 1, none⟩ = some (.slice (some ⟨B2, 0, none⟩) k k) := pw_cell_below (below_alloc (below_alloc (Below.refl _ _) _) _) kg1
    have kf5 : ((wr.alloc (.cells (madeCells #[.int .i64 0] k) 3)).alloc (.cells #[.slice (some ⟨wr.heap.size, 0, none⟩) k k] 26)).cell? ⟨fb, 0, none⟩ = some (.int .i64 fi) := pw_cell_below (below_alloc (below_alloc (Below.refl _ _) _) _) kf
    obtain ⟨W5, hW5⟩ : ∃ W5, W5 = ((wr.alloc (.cells (madeCells #[.int .i64 0] k) 3)).alloc (.cells #[.slice (some ⟨wr.heap.size, 0, none⟩) k k] 26)) := ⟨_, rfl⟩
    rw [← hW5] at kg5 kf5 ⊢
    have HW5 := Aside0.mk hW5
    clear hW5 kg1 kf
    go_wp2_with (go_at_call 43; go_loud (refine (from_calls _ _ _ _ _).mono ?_); rintro e W0 ⟨rfl, hW0⟩; have HW0 := Aside0.mk hW0; clear hW0)
    have hf := alloc4' wr (.cells (madeCells #[.int .i64 0] k) 3) (.cells #[.slice (some ⟨wr.heap.size, 0, none⟩) k k] 26) (.cells #[.slice (some ⟨B2, 0, none⟩) k k] 44) (.cells #[.int .i64 fi] 3)
    have hz5 : W5.heap.size = wr.heap.size + 1 + 1 := by rw [HW5.out]; simp only [World.size_alloc]
    have hW0 := HW0.out
    rw [HW5.out] at hW0
    rw [made0] at hW0 hf
    rw [← hW0] at hf
    obtain ⟨hc1, hc2, hc3, hc4, hz0, hbe⟩ := hf
    have HS0 := Aside0.mk (HS.out.later hbe)
    have hK0 : ∀ a u, wK.cell? a = some u → (a.block < W0.heap.size ∧ a.block ≠ wr.heap.size) ∧ W0.cell? a = some u := fun a u h => by
     have h3 := World.block_lt_of_cell? _ _ (HS.out.p a u h).2
     exact ⟨⟨by omega, by omega⟩, (HS0.out.p a u h).2⟩
    have hseq := from_seqN 1 (wr.heap.size + 1 + 1) (wr.heap.size + 1 + 1 + 1) k k (fun j => j < W0.heap.size ∧ j ≠ wr.heap.size) (some ⟨B2, 0, none⟩) prevs hNp fi hfitsp hn hlensp hn0 hn1 wK HKm.out.2 (Nat.le_refl _) W0 hK0 (fun k hk => hk.1) ((blk_cell hc3 0).trans rfl) ((blk_cell hc4 0).trans rfl) ⟨by omega, by omega⟩ ⟨by omega, by omega⟩
    have HC1 := Aside0.mk hc1
    have HC2 := Aside0.mk hc2
    have hgl : gb < wr.heap.size ∧ bb < wr.heap.size ∧ fb < wr.heap.size := ⟨blk_lt HS.out.g, blk_lt HS.out.b, blk_lt HS.out.f⟩
    have hbw : w.heap.size ≤ wr.heap.size := HS.out.be.size
    have HK0 := Aside0.mk hK0
    obtain ⟨Lb, hLb⟩ : ∃ Lb, Lb = wr.heap.size := ⟨_, rfl⟩
    obtain ⟨lb, hlb⟩ : ∃ lb, lb = wr.heap.size + 1 := ⟨_, rfl⟩
    obtain ⟨bn, hbn⟩ : ∃ bn, bn = wr.heap.size + 1 + 1 := ⟨_, rfl⟩
    obtain ⟨bs, hbs⟩ : ∃ bs, bs = wr.heap.size + 1 + 1 + 1 := ⟨_, rfl⟩
    rw [hz5]
    rw [← hbs, ← hbn, ← hlb, ← hLb]
    rw [← hbs, ← hbn, ← hLb] at hseq
    rw [← hlb, ← hLb] at HC2
    rw [← hLb] at HC1 HK0 hgl hbw hz0
    have HB := Aside0.mk (And.intro hlb (And.intro hbn hbs))
    rw [← hLb] at HB
    clear hc1 hc2 hc3 hc4 hbe hK0 HW0 HW5 hW0 HS kg5 kb kf5 hLb hlb hbn hbs hmk hz5
    refine (wpIn_wide (n := 2)).1 ?_
    refine wpIn_rangeFunc_foot (α := Int × Int) rfl (by omega) (gf := 57) (lb := #[.pointer (some ⟨bn, 0, none⟩), .pointer (some ⟨bs, 0, none⟩)]) rfl trivial (enters_of Try.func57 (by kernel_rfl) rfl)
     hseq (Below.refl _ _) (fun k hk => hk.1) (fun x => rfl)
     (fun pre fp W => Fix W0 Lb fp W 3 ((leftOf k pre).map (Value.int .i64)).toArray)
     (fun c pre fp W => False)
     (fun pre fp A B h ha => h.stable ha) (fun c pre fp A B h ha => h) (fun j => j = Lb)
     ⟨grown_of_below (Below.refl _ _) _, HC1.out, fun _ => Iff.rfl, by omega⟩ (fun k hk => by subst hk; omega)
     (fun x => { tmps := #[.int .i64 k, .slice A1 l1.length c1, undef, undef, .slice none 0 0, .int .i64 0, .pointer (some ⟨gb, 0, none⟩), .pointer (some ⟨bb, 0, none⟩), .pointer (some ⟨fb, 0, none⟩), u9, u10, .pointer (some ⟨lb, 0, none⟩), .int .i64 x.1, .int .i64 x.2, undef, undef, undef, .int .i64 k, .slice A1 l1.length c1, .agg #[.slice (some ⟨B1, 0, none⟩) k k, .slice (some ⟨B2, 0, none⟩) k k], .int .i64 k, .int .i64 k, .bool false, u23, u24, u25, u26, u27, u28, u29, u30, u31, u32, u33, u34, u35, u36, u37, u38, u39, u40, .int .i64 be, .bool false, .int .i64 k, .slice (some ⟨Lb, 0, none⟩) k k, .pointer (some ⟨gb, 1, none⟩), .slice (some ⟨B2, 0, none⟩) k k, .int .i64 fi, .func (.func 57) #[] #[.pointer (some ⟨bn, 0, none⟩), .pointer (some ⟨bs, 0, none⟩)], .int .i64 x.1, .int .i64 x.2, undef, undef, undef, undef, undef, undef, undef, undef, undef, undef, undef, undef, undef, undef, undef, undef, undef, undef, undef, undef, undef, undef, undef, undef, undef, undef, undef, undef, undef, undef, undef, undef, undef, undef, undef], defers := [] }) ?assign ?body ?done ?stop
    case assign =>
     intro l x W K hK
     gi_wp2
     exact hK
    case body =>
     rintro l pre x fp W hF _ hKW hlen
     obtain ⟨hx0, hx1⟩ := from_mem hfitsp hn0 (by omega) x (hlen.subset (by simp))
     have hx2 : x.1 < k := by omega
     have k1 : W.cell? ⟨lb, 0, none⟩ = some (.slice (some ⟨Lb, 0, none⟩) k k) := hF.cell ((blk_cell HC2.out 0).trans rfl) (by have := HB.out; show lb ≠ Lb; omega)
     have k2 := ints_cell hF.c x.1 hx0 (by rw [leftOf_len]; exact hx2)
     have k3 := blk_frozen hF.c x.1.toNat
     have HF := Aside0.mk hF
     clear hF
     gi_wp2
     have hs := HF.out.set x.1.toNat (.int .i64 x.2)
     exact ⟨fp, hs.1, by show Fix W0 Lb fp _ 3 ((leftOf k (pre ++ [x])).map (Value.int .i64)).toArray; rw [leftOf_snoc, ← set_ints]; exact hs.2⟩
    case stop =>
     rintro D c pre fp W _ _ _ h
     exact h.elim
    case done =>
     rintro D xs fp W hD hfD rfl hF hK _
     have hDL : D ≠ Lb := fun e => hfD ((hF.fp D).2 e)
     have HSW := Aside0.mk (HS0.out.fix hF hgl hbw HK0.out)
     have hclb := blk_grown HC2.out hF.g (fun e => by injection e; have := HB.out; omega)
     have hcL := hF.c
     have hWz := hF.g.size
     obtain ⟨left, hleft⟩ : ∃ left, left = leftOf k (fromOf prevs fi) := ⟨_, rfl⟩
     have hll : left.length = k := by rw [hleft, leftOf_len]
     have hR := HR.out
     rw [← hleft] at hcL hR
     have HRm := Aside0.mk hR
     have HCL := Aside0.mk hcL
     have HCb := Aside0.mk hclb
     have HD := Aside0.mk hK
     clear hF hR HR hseq hleft hcL hclb hK
     have kf : W.cell? ⟨fb, 0, none⟩ = some (.int .i64 fi) := (blk_cell HSW.out.f 0).trans rfl
     go_wp2
     have hW2 : Aside0 (Below W.heap.size W ((W.alloc (.cells #[.int .i64 fi] 3)).alloc (.cells #[.slice (some ⟨W.heap.size, 0, none⟩) 1 1] 26)) ∧ RBox W.heap.size (W.heap.size + 1) ((W.alloc (.cells #[.int .i64 fi] 3)).alloc (.cells #[.slice (some ⟨W.heap.size, 0, none⟩) 1 1] 26)) (.slice (some ⟨W.heap.size, 0, none⟩) 1 1) [fi]) :=
      ⟨below_alloc (below_alloc (Below.refl _ _) _) _, by have := blk_new (W.alloc (.cells #[.int .i64 fi] 3)) (.cells #[.slice (some ⟨W.heap.size, 0, none⟩) 1 1] 26); rwa [World.size_alloc] at this,
       (rowi_of (w := W.alloc (.cells #[.int .i64 fi] 3)) (base := W.heap.size) (v := .slice (some ⟨W.heap.size, 0, none⟩) 1 1) (xs := [fi]) (by have := World.ownsRow_lit (base := W.heap.size) (e := 3) (size := 1) W #[.int .i64 fi] 1 (Nat.le_refl _) (by unfold maxLen; omega) rfl; simpa using this)).move (fun j hj => Below.heap_alloc _ _ _ (by simp [Value.ownBlock] at hj; subst hj; simp))⟩
     generalize hgW : ((W.alloc (.cells #[.int .i64 fi] 3)).alloc (.cells #[.slice (some ⟨W.heap.size, 0, none⟩) 1 1] 26)) = Wb at hW2 ⊢
     clear hgW
     generalize hob : W.heap.size + 1 = ob at hW2 ⊢
     go_loopg [15] (be.toNat + 1) (fun m t wr2 => ∃ (out : List Int) (v : Value) (j : Nat), m = j + 1 ∧ Aside0 (Below W.heap.size W wr2 ∧ RBox W.heap.size ob wr2 v out) ∧ Aside0 ((∀ x ∈ out, 0 ≤ x ∧ x < (k : Int)) ∧ 0 < out.length) ∧ Aside0 (cycGo rows left fi be j out = some r))
     case atStart => exact ⟨[fi], _, be.toNat, rfl, hW2, ⟨by intro x hx; simp at hx; subst hx; exact ⟨hn0, hn1⟩, by simp⟩, HRm⟩
     case round =>
      clear hW2 HRm kf
      obtain ⟨out, v, j, rfl, HL, HI, HG⟩ := hrel
      obtain ⟨Av, cv, rfl⟩ := Kd.R_slice HL.out.2.row
      have k1 : wr.cell? ⟨ob, 0, none⟩ = some (.slice Av out.length cv) := (blk_cell HL.out.2.cell 0).trans rfl
      have kb : wr.cell? ⟨bb, 0, none⟩ = some (.int .i64 be) := pw_cell_below HL.out.1 ((blk_cell HSW.out.b 0).trans rfl)
      by_cases hlt : (out.length : Int) < be
      ·cases j with
       | zero => exact absurd HG.out (by simp [cycGo, hlt])
       | succ j =>
       obtain ⟨y, hy, hgo⟩ : ∃ y, (row rows (lastOf out)).find? (hits left fi be out.length) = some y ∧ cycGo rows left fi be j (out ++ [y]) = some r := by
        have h := HG.out
        unfold cycGo at h
        rw [if_pos hlt] at h
        split at h
        ·rename_i y hy; exact ⟨y, hy, h⟩
        ·exact absurd h (by simp)
       have HY := Aside0.mk (And.intro hy hgo)
       clear hy hgo HG
       have hpos := HI.out.2
       obtain ⟨ad, rfl, kl⟩ := Kd.at_int (Kd.R_reads' HL.out.2.row).2.2 ((out.length : Int) - 1) (by omega) (by omega)
       obtain ⟨lv, hlv⟩ : ∃ lv, lv = rd out ((out.length : Int) - 1) := ⟨_, rfl⟩
       rw [← hlv, show ((out.length : Int) - 1).toNat = out.length - 1 by omega] at kl
       obtain ⟨hl0, hl1⟩ := HI.out.1 lv (by rw [hlv]; unfold rd; rw [List.getD_eq_getElem?_getD, List.getElem?_eq_getElem (by omega)]; exact List.getElem_mem _)
       have hlo : lastOf out = lv := by rw [hlv]; rfl
       have HY : Aside0 ((row rows lv).find? (hits left fi be out.length) = some y ∧ cycGo rows left fi be j (out ++ [y]) = some r) := ⟨by have := HY.out; rw [hlo] at this; exact this⟩
       clear hlv hlo
       obtain ⟨adr, A0, c0, hA, hrc, hrl, hRr⟩ := at_row HKm.out.1 lv hl0 (by omega)
       obtain rfl : (⟨B1, 0, none⟩ : Addr) = adr := by injection hA
       clear hA
       rw [add_plain] at hrc
       have HC : Aside0 (∀ a u, wK.cell? a = some u → wr.cell? a = some u) := ⟨fun a u h => pw_cell_below HL.out.1 (HSW.out.p a u h).2⟩
       have kr := HC.out _ _ hrc
       have kg : wr.cell? ⟨gb, 0, none⟩ = some (.slice (some ⟨B1, 0, none⟩) k k) := pw_cell_below HL.out.1 ((blk_cell HSW.out.g 0).trans rfl)
       have kf : wr.cell? ⟨fb, 0, none⟩ = some (.int .i64 fi) := pw_cell_below HL.out.1 ((blk_cell HSW.out.f 0).trans rfl)
       have klb : wr.cell? ⟨lb, 0, none⟩ = some (.slice (some ⟨Lb, 0, none⟩) k k) := pw_cell_below HL.out.1 ((blk_cell HCb.out 0).trans rfl)
       have hrowN : ∀ x ∈ row rows lv, 0 ≤ x ∧ x < (k : Int) := fun x hx => by have := fits_row hfits lv x hx; omega
       have hrlen : (row rows lv).length ≤ 1000000 := hlens _ (row_mem hl0 (by omega))
       have hcon := index_fn k fb lb bb ob Lb k left fi be (some ad) A0 out.length cv c0 (row rows lv) y hll wr wK hRr HC.out hrowN hrlen HY.out.1 kf klb kb k1 (fun z h0 h1 => pw_cell_below HL.out.1 (ints_cell HCL.out z h0 (by omega)))
       have hwl : wrap64 ((out.length : Int) - 1) = (out.length : Int) - 1 := by unfold wrap64; omega
       go_upto_region 21 with (go_at_call 54; refine hcon.mono ?_; rintro e W6 ⟨i, rfl, hi0, hi1, hiy, q, hq⟩; have HQ := Aside0.mk hq; have HIY := Aside0.mk hiy; clear hq hiy)
       obtain ⟨ar, rfl, kr2⟩ := Kd.at_int hRr i hi0 hi1
       rw [HIY.out] at kr2
       have HL6 : Aside0 (Below W.heap.size W W6 ∧ RBox W.heap.size ob W6 (.slice (some ad) out.length cv) out) := ⟨by rw [HQ.out]; exact ⟨pw_below_drewN HL.out.1 q, ⟨HL.out.2.cell, HL.out.2.row.move (fun _ _ => rfl)⟩⟩⟩
       have HL7 : Aside0 (Below W.heap.size W W6.drew ∧ RBox W.heap.size ob W6.drew (.slice (some ad) out.length cv) out) := ⟨⟨below_drew HL6.out.1, ⟨HL6.out.2.cell, HL6.out.2.row.move (fun _ _ => rfl)⟩⟩⟩
       have q1 : W6.cell? ⟨ob, 0, none⟩ = some (.slice (some ad) out.length cv) := (blk_cell HL6.out.2.cell 0).trans rfl
       have q2 : W6.cell? ⟨gb, 0, none⟩ = some (.slice (some ⟨B1, 0, none⟩) k k) := pw_cell_below HL6.out.1 ((blk_cell HSW.out.g 0).trans rfl)
       have q3 : W6.cell? ⟨B1, lv.toNat, none⟩ = some (.slice (some ar) (row rows lv).length c0) := pw_cell_below HL6.out.1 (HSW.out.p _ _ hrc).2
       have q4 : W6.cell? (ar.add i.toNat) = some (.int .i64 y) := pw_cell_below HL6.out.1 (HSW.out.p _ _ kr2).2
       have hbase : W.heap.size ≤ ad.block := Kd.R_base HL6.out.2.row ad.block (by simp [Value.ownBlock])
       have hne : ∀ j, j < W.heap.size → Value.ownBlock (.slice (some ad) out.length cv) ≠ some j := fun j hj e => by simp [Value.ownBlock] at e; omega
       have hap1 := hne gb (blk_lt HSW.out.g)
       have hap2 := hne B1 (World.block_lt_of_cell? _ _ (HSW.out.p _ _ hrc).2)
       have hap3 := hne (ar.add i.toNat).block (World.block_lt_of_cell? _ _ (HSW.out.p _ _ kr2).2)
       have hlenb : (out.length + 1) * 8 ≤ 140737488355328 := by omega
       have hobz : W.heap.size ≤ ob := by omega
       have hyn := hrowN y (by rw [← HIY.out]; unfold rd; rw [List.getD_eq_getElem?_getD, List.getElem?_eq_getElem (by omega)]; exact List.getElem_mem _)
       clear hne kr kg kf klb kb k1 kl
       refine only_end ?_
       refine start_ (n := 12) (S := fun w' => w'.cell? ⟨ob, 0, none⟩ = some (.slice (some ad) out.length cv) ∧ w'.cell? ⟨gb, 0, none⟩ = some (.slice (some ⟨B1, 0, none⟩) k k) ∧ w'.cell? ⟨B1, lv.toNat, none⟩ = some (.slice (some ar) (row rows lv).length c0) ∧ w'.cell? (ar.add i.toNat) = some (.int .i64 y)) (ds := [11]) #[false, false, false, false, false, false, false, false, false, false, false, false] (by kernel_rfl) rfl rfl ⟨q1, q2, q3, q4⟩ (fun hHeld => ?_); refine with_tabW cy.tab21 cy.bits21 (fun HT_ HW_ => ?_)
       generalize W6.drew = W7 at HL7 hHeld ⊢
       have hW7 := HL7.out.1.size
       refine pV 1 75 (bz 12 0x2) HT_.out ?_
       refine pV 3 77 (bz 12 0xa) HT_.out ?_
       refine pV 6 80 (bz 12 0x4a) HT_.out ?_
       refine tV 0 74 (bz 12 0x4b) HT_.out HW_.out hHeld rfl rfl (by rintro w' ⟨s0, s1, s2, s3⟩; go_simp; with_reducible rfl) ?_
       refine tV 2 76 (bz 12 0x4f) HT_.out HW_.out hHeld rfl rfl (by rintro w' ⟨s0, s1, s2, s3⟩; go_simp; with_reducible rfl) ?_
       refine pV 4 78 (bz 12 0x5f) HT_.out ?_
       refine tV 5 79 (bz 12 0x7f) HT_.out HW_.out hHeld rfl rfl (by rintro w' ⟨s0, s1, s2, s3⟩; go_simp; with_reducible rfl) ?_
       refine pV 7 81 (bz 12 0xff) HT_.out ?_
       refine tV 8 82 (bz 12 0x1ff) HT_.out HW_.out hHeld rfl rfl (by rintro w' ⟨s0, s1, s2, s3⟩; go_simp; with_reducible rfl) ?_
       refine one_ (i := 9) (N := (some 83)) (bz 12 0x3ff) rfl rfl (one_of HT_.out (by kernel_rfl)) (by decide) (fun K hK => ?_)
       refine event_step (v := .slice (some ⟨W7.heap.size, 0, none⟩) 1 1) (w1 := W7.alloc (.cells #[.int .i64 y] 3)) (by rfl) ?hrB ?_
       case hrB => first | (go_simp; done) | (go_simp; rfl)
       refine hK.out (Act.put _ (some 83) _) _ ⟨pw_cell_below (below_alloc (Below.refl _ _) _) hHeld.1, pw_cell_below (below_alloc (Below.refl _ _) _) hHeld.2.1, pw_cell_below (below_alloc (Below.refl _ _) _) hHeld.2.2.1, pw_cell_below (below_alloc (Below.refl _ _) _) hHeld.2.2.2⟩ (fun hHeld2 => ?_)
       clear hK K
       simp only [Act.put, List.setIfInBounds_toArray, List.set_cons_zero, List.set_cons_succ]
       refine one_ (i := 10) (N := (some 84)) (bz 12 0x7ff) rfl rfl (one_of HT_.out (by kernel_rfl)) (by decide) (fun K hK => ?_)
       refine Kd.R_append_step KI (w0 := W7) W.heap.size (by rfl) _ _ 26 3 (.int .i64 0) 8 rfl Try.underlying26 It.info3 rfl (by decide) (by omega) (.slice (some ad) out.length cv) out y [.int .i64 y] (fun _ => True) (fun _ => False) rfl rfl rfl (fun _ hk => hk.elim) (fun _ _ => trivial) HL7.out.2.row.any ⟨rfl, rfl, rfl, Nat.le_refl _, fun _ _ => rfl⟩ hW7 hlenb ?_
       intro v1 w1 ho hb hg hat
       have hrun := RowI.of ho
       obtain ⟨g1, cap1, hv1, _, _, _⟩ := Kd.R_form ho (by simp)
       have hnf : ∀ a u, W7.cell? a = some u → Value.ownBlock (.slice (some ad) out.length cv) ≠ some a.block → w1.cell? a = some u := fun a u h1 h2 => (hg.cell_far _ (World.block_lt_of_cell? W7 _ h1) (Ne.symm h2)).trans h1
       refine hK.out (Act.put _ (some 84) _) _ ⟨hnf _ _ hHeld.1 HL7.out.2.ne, hnf _ _ hHeld.2.1 hap1, hnf _ _ hHeld.2.2.1 hap2, hnf _ _ hHeld.2.2.2 hap3⟩ (fun hHeld3 => ?_)
       clear hK K
       have hfz : w1.frozen? ⟨ob, 0, none⟩ = false := (frozen_far hg _ (World.block_lt_of_cell? W7 _ hHeld.1) (Ne.symm HL7.out.2.ne)).trans (blk_frozen HL7.out.2.cell _)
       have hcl := hHeld3.1
       have HP := Aside0.mk (And.intro ((HL7.out.1.grown hg HL7.out.1.size (fun j e => Kd.R_base HL7.out.2.row j e)).setCell (p := ⟨ob, 0, none⟩) hobz v1) (HL7.out.2.app hrun hg))
       clear ho hb hg hat hHeld hHeld2 hHeld3 hrun hnf
       subst hv1
       simp only [Act.put, List.setIfInBounds_toArray, List.set_cons_zero, List.set_cons_succ]
       refine last_ (i := 11) (N := none) (bz 12 0xfff) rfl rfl (one_of HT_.out (by kernel_rfl)) (by decide) (fun K hK => ?_)
       refine skip_ (w1 := w1.setCell ⟨ob, 0, none⟩ (.slice (some ⟨g1, 0, none⟩) (out ++ [y]).length cap1)) (by rfl) rfl ?hrS ?_
       case hrS => first | (go_simp; done) | (go_simp; rfl)
       refine hK.out _ _ ?_
       clear hK K
       refine done_ (done_of HT_.out (by kernel_rfl)) ?_
       unfold OnlyEnd
       dsimp only
       go_wp2
       go_roundg (j + 1)
       case measure => omega
       case rel =>
        exact ⟨out ++ [y], _, j, rfl, HP, ⟨fun x hx => by
         rcases List.mem_append.1 hx with hx | hx
         ·exact HI.out.1 x hx
         ·simp at hx; subst hx; exact hyn, by simp⟩, ⟨HY.out.2⟩⟩
      ·have hr : r = out := by
        have h := HG.out
        cases j with
        | zero => unfold cycGo at h; rw [if_neg hlt] at h; exact (Option.some.inj h).symm
        | succ j => unfold cycGo at h; rw [if_neg hlt] at h; exact (Option.some.inj h).symm
       subst hr
       have hDv : Value.ownBlock (.slice Av r.length cv) ≠ some D := fun e => by
        have h1 := Kd.R_base HL.out.2.row D e
        have h2 := blk_lt HD.out
        omega
       have hK2 : wr.heap[D]? = some (.deferred (some [])) := (HL.out.1.block D (blk_lt HD.out)).trans HD.out
       go_wp2
       refine ⟨by simp, .inl ⟨_, _, rfl, run_takeDeferred hK2, ?_⟩⟩
       refine ⟨_, results_tmp2 rfl _ _ _, _, rfl, ?_, ?_⟩
       ·exact ((HL.out.2.row.move (fun j hj => World.putObj_heap_other (fun e => hDv (by rw [hj, e])))).any) |> fun h => Kd.R_lower h (HSW.out.be.size)
       ·exact (HSW.out.be.trans (HL.out.1.mono HSW.out.be.size)).trans (belowK_b (w := w) (Nat.le_refl _) wr D _ _ (by omega) hK2 rfl rfl)
end Go.Proofs.Ytlldjinejckbaaa.Cy

end
section
namespace Go.Proofs.Ytlldjinejckbaaa.Ins
open Go Go.RowKit Go.Proofs.YtlldjinejckbaaaW.PrintWords Go.Proofs.YtlldjinejckbaaaW.PrintLast Go.Proofs.YtlldjinejckbaaaW.PrintMore
open Go.Proofs.Ytlldjinejckbaaa.It Go.Proofs.Ytlldjinejckbaaa.Lb Go.Proofs.Ytlldjinejckbaaa.Lc
set_option linter.unusedVariables false
set_option linter.unusedSimpArgs false
theorem row_of_block {w : World} {base g n cap : Nat} {cur : Array Value} {ys : List Int} (hb : w.heap[g]? = some (.cells cur 3 (0, 0))) (hg : base ≤ g) (hn : ys.length = n) (hc : n ≤ cap) (hm : cap ≤ maxLen) (hs : cur.size = cap)
  (he : ∀ j, j < n → cur[j]? = (ys[j]?).map (Value.int .i64)) : RowI w base (.slice (some ⟨g, 0, none⟩) n cap) ys := by
 refine rowi_of ⟨by simp, .inr ⟨g, cap, cur, by rw [hn], hg, hb, by omega, hm, by omega, ?_⟩⟩
 apply List.ext_getElem?
 intro j
 rw [Nat.mul_one, List.getElem?_take, List.getElem?_map]
 split
 ·rename_i hj
  rw [Array.getElem?_toList]
  exact he j (by omega)
 ·rw [List.getElem?_eq_none (by omega)]; rfl
theorem heap_lay {b : Nat} {t : TypeId} : ∀ (vs : List Value) (o : Nat) (w : World) (cs : Array Value), w.heap[b]? = some (.cells cs t (0, 0)) → (w.setCells b o vs).heap[b]? = some (.cells (Lib.lay cs o vs) t (0, 0))
 | [], _, _, _, h => h
 | v :: r, o, w, cs, h => heap_lay r (o + 1) _ _ (blk_set h o v)
theorem heap_other {b k : Nat} (hk : k ≠ b) : ∀ (vs : List Value) (o : Nat) (w : World), (w.setCells b o vs).heap[k]? = w.heap[k]?
 | [], _, _ => rfl
 | v :: r, o, w => (heap_other hk r (o + 1) _).trans (Below.heap_setCell _ _ _ _ hk)
theorem same_setCells {b : Nat} : ∀ (vs : List Value) (o : Nat) (w : World), (w.setCells b o vs).os = w.os ∧ (w.setCells b o vs).tape = w.tape ∧ (w.setCells b o vs).output = w.output ∧ (w.setCells b o vs).heap.size = w.heap.size
 | [], _, _ => ⟨rfl, rfl, rfl, rfl⟩
 | v :: r, o, w => by
  have h := same_setCells (b := b) r (o + 1) (w.setCell ⟨b, o, none⟩ v)
  exact ⟨h.1, h.2.1, h.2.2.1, by rw [show (w.setCells b o (v :: r)) = (w.setCell ⟨b, o, none⟩ v).setCells b (o + 1) r from rfl, h.2.2.2]; simp⟩
theorem grown_setCells {b : Nat} (vs : List Value) (o : Nat) (w : World) : w.grownBy (w.setCells b o vs) (some b) := by
 obtain ⟨h1, h2, h3, h4⟩ := same_setCells (b := b) vs o w
 exact ⟨h1, h2, h3, by rw [h4]; exact Nat.le_refl _, fun k hk hne => heap_other (fun e => hne (congrArg some e)) vs o w⟩
theorem below_set {B b o : Nat} {a w : World} {vs : List Value} (hB : B ≤ b) (h : Below B a w) : Below B a (w.setCells b o vs) := by
 obtain ⟨h1, h2, h3, h4⟩ := same_setCells (b := b) vs o w
 exact ⟨h1.trans h.os, h2.trans h.tape, h3.trans h.output, by rw [h4]; exact h.size, fun k hk => (heap_other (by omega) vs o w).trans (h.block k hk)⟩
theorem lay_size {α : Type} : ∀ (xs : List α) (d : Array α) (k : Nat), (Lib.lay d k xs).size = d.size
 | [], _, _ => rfl
 | x :: r, d, k => by unfold Lib.lay; rw [lay_size r]; simp
theorem zeros_size (m : Nat) : (Builtin.zeroCells (Value.int .i64 0).cells m).size = m := by simp [Builtin.zeroCells, Value.cells]
def insertAt (xs : List Int) (i : Nat) (x : Int) : List Int := xs.take i ++ x :: xs.drop i
theorem insertAt_length (xs : List Int) (i : Nat) (x : Int) (hi : i ≤ xs.length) : (insertAt xs i x).length = xs.length + 1 := by unfold insertAt; simp; omega
theorem insertAt_get (xs : List Int) (i : Nat) (x : Int) (hi : i ≤ xs.length) (j : Nat) : (insertAt xs i x)[j]? = if j < i then xs[j]? else if j = i then some x else xs[j - 1]? := by
 unfold insertAt
 rw [List.getElem?_append, List.length_take, Nat.min_eq_left hi]
 split
 ·rename_i h; rw [List.getElem?_take, if_pos h]
 ·rename_i h
  split
  ·rename_i e; subst e; simp
  ·rename_i e
   obtain ⟨t, ht⟩ : ∃ t, j - i = t + 1 := ⟨j - i - 1, by omega⟩
   rw [ht, List.getElem?_cons_succ, List.getElem?_drop]
   congr 1; omega
theorem insert_row (w : World) (base vb : Nat) (v : Value) (xs : List Int) (i : Nat) (x : Int) (h : RowI w base v xs) (hbase : base ≤ w.heap.size) (hs : xs.length ≤ 1000000) (hi : i ≤ xs.length) (hvb : w.heap[vb]? = some (.cells #[.int .i64 x] 3 (0, 0))) (hne : v.ownBlock ≠ some vb) :
  Calls Try.prog 52 #[v, .int .i64 i, .slice (some ⟨vb, 0, none⟩) 1 1] w fun e w' => ∃ v', e = .returned v' ∧ RowI w' base v' (insertAt xs i x) ∧ w.grownBy w' v.ownBlock ∧ (v'.ownBlock = v.ownBlock ∨ ∃ b, v'.ownBlock = some b ∧ w.heap.size ≤ b) := by
 have hvs : ∀ j u, [Value.int .i64 x][j]? = some u → w.cell? ⟨vb, 0 + j, none⟩ = some u := fun j u hj => by
  have : j = 0 := by
   have := (List.getElem?_eq_some_iff.1 hj).1; simpa using this
  subst this
  rw [blk_cell hvb]; simpa using hj
 have hone : ∀ u ∈ [Value.int .i64 x], u.oneCell' = true := fun u hu => by simp at hu; subst hu; rfl
 have ho := rowi_owns h
 have ht3 : Try.laysNm221_ren.t 3 = 3 := rfl
 have hl := insertAt_length xs i x hi
 rcases ho.2 with ⟨rfl, hn⟩ | ⟨g, cap, cur, rfl, hg, hb, h1, h2, h3, h4⟩
 ·obtain rfl : xs = [] := List.length_eq_zero_iff.1 hn
  obtain rfl : i = 0 := by simpa using hi
  refine (Any2.slices_Insert_int_end_grow Try.laysNm221 none 0 0 vb 0 1 1 [] [.int .i64 x] w (by omega) (by omega) (by omega) (by omega) rfl rfl (fun _ => rfl) (fun a e => by cases e) hvs hone).mono ?_
  rintro e w' ⟨rfl, rfl⟩
  simp only [ht3]
  have hge := grownCap_ge w (0 + 1) 0 3
  refine ⟨_, rfl, row_of_block (blk_new w.drew _) hbase (by simpa using hl) hge (grownCap_le_maxLen w _ _ 3 (by unfold maxLen; omega)) ?_ (fun j hj => ?_), ?_, .inr ⟨_, rfl, Nat.le_refl _⟩⟩
  ·rw [Array.size_append, zeros_size]; simp at hge ⊢; omega
  ·obtain rfl : j = 0 := by omega
   rw [Array.getElem?_append_left (by simp)]
   simp [insertAt]
  ·exact grown_of_below ((below_drew (Below.refl w.heap.size w)).alloc (Nat.le_refl _) _) _
 ·have hcur : ∀ j, j < xs.length → cur[j]? = (xs[j]?).map (Value.int .i64) := fun j hj => by
   have h5 := congrArg (fun l : List Value => l[j]?) h4
   simp only [List.getElem?_take, List.getElem?_map, Nat.mul_one] at h5
   rw [if_pos hj, Array.getElem?_toList] at h5
   exact h5
  have hsz : cur.size = cap := by omega
  have hgvb : vb ≠ g := fun e => hne (by simp [Value.ownBlock, e])
  have hcs : ∀ j u, (xs.map (Value.int .i64))[j]? = some u → w.cell? ⟨g, 0 + j, none⟩ = some u := fun j u hj => by
   have hjl : j < xs.length := by have := (List.getElem?_eq_some_iff.1 hj).1; simpa using this
   rw [blk_cell hb, Nat.zero_add, hcur j hjl, ← hj, List.getElem?_map]
  have hone2 : ∀ u ∈ xs.map (Value.int .i64), u.oneCell' = true := fun u hu => by
   obtain ⟨z, _, rfl⟩ := List.mem_map.1 hu; rfl
  have hcl : (xs.map (Value.int .i64)).length = xs.length := by simp
  have hown : (Value.slice (some ⟨g, 0, none⟩) xs.length cap).ownBlock = some g := rfl
  rw [hown]
  have hin : ∀ j, (if j < i then xs[j]? else if j = i then some x else xs[j - 1]?) = (insertAt xs i x)[j]? := fun j => (insertAt_get xs i x hi j).symm
  by_cases hroom : xs.length + 1 ≤ cap
  ·by_cases hlt : i < xs.length
   ·refine (Any2.slices_Insert_int_shift Try.laysNm221 g 0 xs.length cap i vb 0 1 1 (xs.map (Value.int .i64)) [.int .i64 x] w hlt (by omega) hroom (by unfold maxLen at h2; omega) hgvb hcl rfl hcs
     (fun j hj => by rw [blk_cell hb, Nat.zero_add, Array.getElem?_eq_getElem (by omega)]; rfl) (fun j hj => blk_frozen hb _) hvs hone2 hone 3 3 1 cap (by unfold World.shape?; rw [hvb]; rfl) (by unfold World.shape?; rw [hb]; simp [hsz]) (by omega) (blk_frozen hvb _) (blk_frozen hvb _)).mono ?_
    rintro e w' ⟨rfl, rfl⟩
    refine ⟨_, rfl, row_of_block (heap_lay _ _ _ _ (heap_lay _ _ _ _ (show w.drew.heap[g]? = _ from hb))) hg hl hroom h2 (by rw [lay_size, lay_size]; exact hsz) (fun j hj => ?_), ?_, .inl rfl⟩
    ·rw [Lib.lay_get? _ _ _ _ (by rw [lay_size, hsz]; simp; omega), Lib.lay_get? _ _ _ _ (by rw [hsz]; simp; omega), ← hin]
     simp only [List.length_singleton, List.length_drop, List.length_map, Nat.zero_add]
     by_cases c1 : j < i
     ·rw [if_neg (by omega), if_neg (by omega), if_pos c1]; exact hcur j (by omega)
     ·by_cases c2 : j = i
      ·subst c2; rw [if_pos (by omega), if_neg c1, if_pos rfl]; simp
      ·rw [if_neg (by omega), if_pos (by omega), if_neg c1, if_neg c2, List.getElem?_drop, List.getElem?_map]
       congr 2; omega
    ·have g1 := grown_setCells (b := g) ((xs.map (Value.int .i64)).drop i) (0 + (i + 1)) w.drew
     have g2 := grown_setCells (b := g) [Value.int .i64 x] (0 + i) (w.drew.setCells g (0 + (i + 1)) ((xs.map (Value.int .i64)).drop i))
     have g3 := World.grownBy.trans g1 g2
     exact ⟨g3.os, g3.tape, g3.output, g3.size, g3.block⟩
   ·obtain rfl : i = xs.length := by omega
    refine (Any2.slices_Insert_int_end_room Try.laysNm221 g 0 xs.length cap vb 0 1 1 [.int .i64 x] w (by omega) hroom (by unfold maxLen at h2; omega) rfl
     (fun j hj => by rw [blk_cell hb, Array.getElem?_eq_getElem (by omega)]; rfl) (fun j hj => blk_frozen hb _) hvs hone).mono ?_
    rintro e w' ⟨rfl, rfl⟩
    refine ⟨_, rfl, row_of_block (heap_lay _ _ _ _ hb) hg hl hroom h2 (by rw [lay_size]; exact hsz) (fun j hj => ?_), grown_setCells _ _ _, .inl rfl⟩
    rw [Lib.lay_get? _ _ _ _ (by rw [hsz]; simp; omega), ← hin]
    simp only [List.length_singleton, Nat.zero_add]
    by_cases c1 : j < xs.length
    ·rw [if_neg (by omega), if_pos c1]; exact hcur j c1
    ·obtain rfl : j = xs.length := by omega
     rw [if_pos (by omega), if_neg c1, if_pos rfl]; simp
  ·have hge := grownCap_ge w (xs.length + 1) cap 3
   have hmx := grownCap_le_maxLen w (xs.length + 1) cap 3 (by unfold maxLen; omega)
   by_cases hlt : i < xs.length
   ·refine (Any2.slices_Insert_int_grow Try.laysNm221 g 0 xs.length cap i vb 0 1 1 (xs.map (Value.int .i64)) [.int .i64 x] w hlt (by omega) h1 (by omega) (by omega) hcl rfl hcs hvs hone2 hone).mono ?_
    rintro e w' ⟨rfl, rfl⟩
    simp only [ht3]
    have hb0 : (w.alloc (.cells (((xs.map (Value.int .i64)).take i).toArray ++ Builtin.zeroCells (Value.int .i64 0).cells (xs.length + 1 - i) ++ Builtin.zeroCells (Value.int .i64 0).cells (grownCap w (xs.length + 1) cap 3 - (xs.length + 1))) 3)).drew.heap[w.heap.size]? = _ := blk_new w _
    have hsz0 : (((xs.map (Value.int .i64)).take i).toArray ++ Builtin.zeroCells (Value.int .i64 0).cells (xs.length + 1 - i) ++ Builtin.zeroCells (Value.int .i64 0).cells (grownCap w (xs.length + 1) cap 3 - (xs.length + 1))).size = grownCap w (xs.length + 1) cap 3 := by
     simp [zeros_size]; omega
    refine ⟨_, rfl, row_of_block (heap_lay _ _ _ _ (show (World.drew _).heap[w.heap.size]? = _ from heap_lay _ _ _ _ hb0)) hbase hl hge hmx (by rw [lay_size, lay_size]; exact hsz0) (fun j hj => ?_), ?_, .inr ⟨_, rfl, Nat.le_refl _⟩⟩
    ·rw [Lib.lay_get? _ _ _ _ (by rw [lay_size, hsz0]; simp; omega), Lib.lay_get? _ _ _ _ (by rw [hsz0]; simp; omega), ← hin]
     simp only [List.length_singleton, List.length_drop, List.length_map, Nat.zero_add]
     by_cases c1 : j < i
     ·rw [if_neg (by omega), if_neg (by omega), if_pos c1]
      have : (((xs.map (Value.int .i64)).take i).toArray ++ Builtin.zeroCells (Value.int .i64 0).cells (xs.length + 1 - i) ++ Builtin.zeroCells (Value.int .i64 0).cells (grownCap w (xs.length + 1) cap 3 - (xs.length + 1)))[j]? = ((xs.map (Value.int .i64)).take i)[j]? := by
       rw [Array.append_assoc, Array.getElem?_append_left (by simp; omega), List.getElem?_toArray]
      rw [this, List.getElem?_take, if_pos c1, List.getElem?_map]
     ·by_cases c2 : j = i
      ·subst c2; rw [if_neg (by omega), if_pos (by omega), if_neg c1, if_pos rfl]; simp
      ·rw [if_pos (by omega), if_neg c1, if_neg c2, List.getElem?_drop, List.getElem?_map]
       congr 2; omega
    ·refine grown_of_below ?_ _
     have b1 := ((Below.refl w.heap.size w).alloc (Nat.le_refl _) (.cells (((xs.map (Value.int .i64)).take i).toArray ++ Builtin.zeroCells (Value.int .i64 0).cells (xs.length + 1 - i) ++ Builtin.zeroCells (Value.int .i64 0).cells (grownCap w (xs.length + 1) cap 3 - (xs.length + 1))) 3))
     exact below_set (Nat.le_refl _) (below_drew (below_set (Nat.le_refl _) (below_drew b1)))
   ·obtain rfl : i = xs.length := by omega
    refine (Any2.slices_Insert_int_end_grow Try.laysNm221 (some ⟨g, 0, none⟩) xs.length cap vb 0 1 1 (xs.map (Value.int .i64)) [.int .i64 x] w (by omega) h1 (by omega) (by omega) hcl rfl (fun e => by cases e)
     (fun a e j u hj => by cases e; rw [add_plain]; have := hcs j u hj; rwa [Nat.zero_add] at this) hvs hone).mono ?_
    rintro e w' ⟨rfl, rfl⟩
    simp only [ht3]
    refine ⟨_, rfl, row_of_block (blk_new w.drew _) hbase hl hge hmx ?_ (fun j hj => ?_), ?_, .inr ⟨_, rfl, Nat.le_refl _⟩⟩
    ·simp [zeros_size]; omega
    ·rw [Array.getElem?_append_left (by simp; omega), List.getElem?_toArray, List.getElem?_append, ← hin, List.length_map]
     by_cases c1 : j < xs.length
     ·rw [if_pos c1, if_pos c1, List.getElem?_map]
     ·obtain rfl : j = xs.length := by omega
      rw [if_neg c1, if_neg c1, if_pos rfl, Nat.sub_self]; rfl
    ·exact grown_of_below ((below_drew (Below.refl w.heap.size w)).alloc (Nat.le_refl _) _) _
end Go.Proofs.Ytlldjinejckbaaa.Ins

end
section
namespace Go.Proofs.Ytlldjinejckbaaa.Od
open Go Go.RowKit Go.Proofs.YtlldjinejckbaaaW.PrintWords Go.Proofs.YtlldjinejckbaaaW.PrintLast Go.Proofs.YtlldjinejckbaaaW.PrintMore
open Go.Proofs.Ytlldjinejckbaaa.It Go.Proofs.Ytlldjinejckbaaa.Mod Go.Proofs.Ytlldjinejckbaaa.Gs Go.Proofs.Ytlldjinejckbaaa.Lb Go.Proofs.Ytlldjinejckbaaa.Ng Go.Proofs.Ytlldjinejckbaaa.Rc Go.Proofs.Ytlldjinejckbaaa.Lc Go.Proofs.Ytlldjinejckbaaa.Cy Go.Proofs.Ytlldjinejckbaaa.Ins Go.Proofs.Ytlldjinejckbaaa.PD
set_option linter.unusedVariables false
set_option linter.unusedSimpArgs false
def start1 (prevs : List (List Int)) (n k : Nat) : List Int × List Int := (List.range k).foldl (fun s (v : Nat) => (s.1.set v ((row prevs v).length : Int), if ((row prevs v).length : Int) = 0 then s.2 ++ [(v : Int)] else s.2)) (List.replicate n 0, [])
theorem start1_succ (prevs : List (List Int)) (n k : Nat) : start1 prevs n (k + 1) = ((start1 prevs n k).1.set k ((row prevs k).length : Int), if ((row prevs k).length : Int) = 0 then (start1 prevs n k).2 ++ [(k : Int)] else (start1 prevs n k).2) := by unfold start1; rw [List.range_succ, List.foldl_append]; rfl
theorem start1_len (prevs : List (List Int)) (n k : Nat) : (start1 prevs n k).1.length = n ∧ (start1 prevs n k).2.length ≤ k ∧ (∀ x ∈ (start1 prevs n k).2, 0 ≤ x ∧ x < (k : Int)) ∧ (start1 prevs n k).2.Pairwise (· ≤ ·) := by
 induction k with
 | zero => simp [start1]
 | succ k ih =>
  obtain ⟨h1, h2, h3, h4⟩ := ih
  rw [start1_succ]
  refine ⟨by simp [h1], ?_, ?_, ?_⟩ <;> dsimp only <;> split
  ·simp; omega
  ·omega
  ·intro x hx
   rcases List.mem_append.1 hx with hx | hx
   ·have := h3 x hx; omega
   ·simp at hx; omega
  ·intro x hx; have := h3 x hx; omega
  ·exact List.pairwise_append.2 ⟨h4, by simp, fun a ha b hb => by simp at hb; have := h3 a ha; omega⟩
  ·exact h4
def takeRow : List Int → List Int → List Int → List Int × List Int
 | [], w, r => (w, r)
 | x :: xs, w, r => if wrap64 (rd w x - 1) = 0 then takeRow xs (w.set x.toNat (wrap64 (rd w x - 1))) (insertAt r (r.countP (· < x)) x) else takeRow xs (w.set x.toNat (wrap64 (rd w x - 1))) r
def ordGo (rows : List (List Int)) : Nat → List Int → List Int → List Int → Option (List Int)
 | 0, _, _, _ => none
 | _ + 1, _, [], out => some out
 | k + 1, w, v :: r, out => if 500000 < r.length then none else ordGo rows k (takeRow (row rows v) w r).1 (takeRow (row rows v) w r).2 (out ++ [v])
def orderOf (n : Nat) (l : List S55) : Option (List Int × Int) :=
 (ordGo (tidy (built n l true)) (n + 1) (start1 (tidy (built n l false)) n n).1 (start1 (tidy (built n l false)) n n).2 []).map fun out => if out.length < n then ([], 50) else (out, 0)
theorem countP_le (r : List Int) (x : Int) : r.countP (· < x) ≤ r.length := List.countP_le_length
theorem insert_sorted (r : List Int) (x : Int) (h : r.Pairwise (· ≤ ·)) : (insertAt r (r.countP (· < x)) x).Pairwise (· ≤ ·) := by
 induction r with
 | nil => simp [insertAt]
 | cons a r ih =>
  rw [List.pairwise_cons] at h
  by_cases hax : a < x
  ·have e : insertAt (a :: r) ((a :: r).countP (· < x)) x = a :: insertAt r (r.countP (· < x)) x := by
    rw [List.countP_cons]
    simp [hax, insertAt]
   rw [e, List.pairwise_cons]
   refine ⟨fun b hb => ?_, ih h.2⟩
   unfold insertAt at hb
   rcases List.mem_append.1 hb with hb | hb
   ·exact h.1 b (List.mem_of_mem_take hb)
   ·rcases List.mem_cons.1 hb with hb | hb
    ·omega
    ·exact h.1 b (List.mem_of_mem_drop hb)
  ·have e : (a :: r).countP (· < x) = 0 := by
    rw [List.countP_eq_zero]
    intro b hb
    rcases List.mem_cons.1 hb with hb | hb
    ·subst hb; simpa using hax
    ·have := h.1 b hb; simp; omega
   rw [e]
   unfold insertAt
   rw [List.take_zero, List.drop_zero, List.nil_append, List.pairwise_cons]
   refine ⟨fun b hb => ?_, List.pairwise_cons.2 h⟩
   rcases List.mem_cons.1 hb with hb | hb
   ·omega
   ·have := h.1 b hb; omega
theorem mem_insertAt {r : List Int} {i : Nat} {x y : Int} (h : y ∈ insertAt r i x) : y = x ∨ y ∈ r := by
 unfold insertAt at h
 rcases List.mem_append.1 h with h | h
 ·exact .inr (List.mem_of_mem_take h)
 ·rcases List.mem_cons.1 h with h | h
  ·exact .inl h
  ·exact .inr (List.mem_of_mem_drop h)
structure OSt (w W wK : World) (B gb L B1 B2 n : Nat) (waits : List Int) (v8 : Value) (ready : List Int) (v9 : Value) (out : List Int) : Prop where
 g : W.heap[gb]? = some (.cells #[.slice (some ⟨B1, 0, none⟩) n n, .slice (some ⟨B2, 0, none⟩) n n] 73 (0, 0))
 l : W.heap[L]? = some (.cells (waits.map (Value.int .i64)).toArray 3 (0, 0))
 p : ∀ a v, wK.cell? a = some v → (a.block ≠ L ∧ a.block < B) ∧ W.cell? a = some v
 q : QueI W B v8 ready
 o : RowI W B v9 out
 ap : ∀ k, v8.ownBlock = some k → v9.ownBlock ≠ some k
 be : Below w.heap.size w W
 sz : B ≤ W.heap.size
 gB : gb < B
 lB : L < B
 gl : gb ≠ L
 wg : w.heap.size ≤ gb
 wl : w.heap.size ≤ L
section
variable {w W wK w1 : World} {B gb L B1 B2 n : Nat} {waits : List Int} {v8 v9 : Value} {ready out : List Int}
theorem OSt.later (h : OSt w W wK B gb L B1 B2 n waits v8 ready v9 out) (hb : Below W.heap.size W w1) : OSt w w1 wK B gb L B1 B2 n waits v8 ready v9 out :=
 ⟨(hb.block _ (blk_lt h.g)).trans h.g, (hb.block _ (blk_lt h.l)).trans h.l, fun a v hv => ⟨(h.p a v hv).1, pw_cell_below hb (h.p a v hv).2⟩, h.q.move (fun k hk => hb.block k (Kd.Q_lt h.q k hk)), h.o.move (fun k hk => hb.block k (Kd.R_lt h.o k hk)), h.ap, h.be.trans (hb.mono h.be.size), Nat.le_trans h.sz hb.size, h.gB, h.lB, h.gl, h.wg, h.wl⟩
theorem OSt.base (h : OSt w W wK B gb L B1 B2 n waits v8 ready v9 out) {row : Option Nat} (hg : W.grownBy w1 row) (hr : ∀ k, row = some k → B ≤ k) :
  w1.heap[gb]? = some (.cells #[.slice (some ⟨B1, 0, none⟩) n n, .slice (some ⟨B2, 0, none⟩) n n] 73 (0, 0)) ∧ w1.heap[L]? = some (.cells (waits.map (Value.int .i64)).toArray 3 (0, 0)) ∧
   (∀ a v, wK.cell? a = some v → (a.block ≠ L ∧ a.block < B) ∧ w1.cell? a = some v) ∧ Below w.heap.size w w1 ∧ B ≤ w1.heap.size := by
 have hk : ∀ k, k < B → w1.heap[k]? = W.heap[k]? := fun k hk => hg.block k (Nat.lt_of_lt_of_le hk h.sz) (fun e => by have := hr k e.symm; omega)
 refine ⟨(hk _ h.gB).trans h.g, (hk _ h.lB).trans h.l, fun a v hv => ⟨(h.p a v hv).1, (World.cell?_of_block (hk _ (h.p a v hv).1.2)).trans (h.p a v hv).2⟩, h.be.grown hg h.be.size (fun k e => by have := hr k e; have := h.wg; have := h.gB; omega), Nat.le_trans h.sz hg.size⟩
theorem OSt.outs {v9' : Value} {out' : List Int} (h : OSt w W wK B gb L B1 B2 n waits v8 ready v9 out) (hg : W.grownBy w1 v9.ownBlock) (ho : RowI w1 B v9' out') (hat : v9'.ownBlock = v9.ownBlock ∨ ∃ b, v9'.ownBlock = some b ∧ W.heap.size ≤ b) : OSt w w1 wK B gb L B1 B2 n waits v8 ready v9' out' := by
 obtain ⟨h1, h2, h3, h4, h5⟩ := h.base hg (fun k e => Kd.R_base h.o k e)
 refine ⟨h1, h2, h3, h.q.move (fun k hk => hg.block k (Kd.Q_lt h.q k hk) (fun e => h.ap k hk e.symm)), ho, fun k hk e => ?_, h4, h5, h.gB, h.lB, h.gl, h.wg, h.wl⟩
 rcases hat with hat | ⟨b, hb, hle⟩
 ·exact h.ap k hk (by rw [← hat]; exact e)
 ·rw [hb] at e; cases e; have := Kd.Q_lt h.q _ hk; omega
theorem OSt.qs {v8' : Value} {ready' : List Int} (h : OSt w W wK B gb L B1 B2 n waits v8 ready v9 out) (hg : W.grownBy w1 v8.ownBlock) (ho : QueI w1 B v8' ready') (hat : v8'.ownBlock = v8.ownBlock ∨ ∃ b, v8'.ownBlock = some b ∧ W.heap.size ≤ b) : OSt w w1 wK B gb L B1 B2 n waits v8' ready' v9 out := by
 obtain ⟨h1, h2, h3, h4, h5⟩ := h.base hg (fun k e => Kd.Q_base h.q k e)
 refine ⟨h1, h2, h3, ho, h.o.move (fun k hk => hg.block k (Kd.R_lt h.o k hk) (fun e => h.ap k e.symm hk)), fun k hk e => ?_, h4, h5, h.gB, h.lB, h.gl, h.wg, h.wl⟩
 rcases hat with hat | ⟨b, hb, hle⟩
 ·exact h.ap k (by rw [← hat]; exact hk) e
 ·rw [hb] at hk; cases hk; have := Kd.R_lt h.o _ e; omega
theorem OSt.fresh {v8' : Value} {ready' : List Int} (h : OSt w W wK B gb L B1 B2 n waits v8 ready v9 out) (hb : Below W.heap.size W w1) (ho : RowI w1 W.heap.size v8' ready') : OSt w w1 wK B gb L B1 B2 n waits v8' ready' v9 out := by
 have h2 := h.later hb
 exact ⟨h2.g, h2.l, h2.p, QueI.of (Kd.Q_of_R (Kd.R_lower ho h.sz)), h2.o, fun k hk e => by have := Kd.R_base ho k hk; have := Kd.R_lt h.o k e; omega, h2.be, h2.sz, h.gB, h.lB, h.gl, h.wg, h.wl⟩
theorem OSt.store (h : OSt w W wK B gb L B1 B2 n waits v8 ready v9 out) (i : Nat) (x : Int) : OSt w (W.setCell ⟨L, i, none⟩ (.int .i64 x)) wK B gb L B1 B2 n (waits.set i x) v8 ready v9 out := by
 have hs : ∀ k, k ≠ L → (W.setCell ⟨L, i, none⟩ (.int .i64 x)).heap[k]? = W.heap[k]? := fun k hk => Below.heap_setCell _ _ _ _ hk
 refine ⟨blk_far h.g h.gl _, by have := blk_set h.l i (.int .i64 x); rwa [set_ints] at this, fun a v hv => ⟨(h.p a v hv).1, (World.cell?_of_block (hs _ (h.p a v hv).1.1)).trans (h.p a v hv).2⟩,
  h.q.move (fun k hk => hs k (fun e => by have := Kd.Q_base h.q k hk; have := h.lB; omega)), h.o.move (fun k hk => hs k (fun e => by have := Kd.R_base h.o k hk; have := h.lB; omega)), h.ap, h.be.setCell h.wl _, by have := h.sz; simpa using this, h.gB, h.lB, h.gl, h.wg, h.wl⟩
theorem OSt.drop {A : Option Addr} {m c : Nat} (h : OSt w W wK B gb L B1 B2 n waits (.slice A m c) ready v9 out) (hk : 1 ≤ ready.length) : OSt w W wK B gb L B1 B2 n waits (.slice (if c = 1 then A else A.map (·.add 1)) (m - 1) (c - 1)) (ready.drop 1) v9 out := by
 have ho : ∀ k, (Value.slice (if c = 1 then A else A.map (·.add 1)) (m - 1) (c - 1)).ownBlock = some k → (Value.slice A m c).ownBlock = some k := by
  intro k
  cases A with
  | none => split <;> simp [Value.ownBlock]
  | some a => split <;> simp [Value.ownBlock, add_block]
 exact ⟨h.g, h.l, h.p, QueI.of (Kd.Q_drop h.q.any hk), h.o, fun k e => h.ap k (ho k e), h.be, h.sz, h.gB, h.lB, h.gl, h.wg, h.wl⟩
end
theorem alloc2 (w : World) (o1 o2 : Obj) : ((w.alloc o1).alloc o2).heap[w.heap.size]? = some o1 ∧ ((w.alloc o1).alloc o2).heap[w.heap.size + 1]? = some o2 ∧ Below w.heap.size w ((w.alloc o1).alloc o2) := by
 have h2 := blk_new (w.alloc o1) o2
 simp only [World.size_alloc] at h2
 exact ⟨blk_alloc (blk_new w o1) _, h2, below_alloc (below_alloc (Below.refl _ _) _) _⟩
set_option maxHeartbeats 4000000 in
set_option maxRecDepth 100000 in
theorem Order_calls (n : Nat) (hn : n ≤ 1000) (A1 : Option Addr) (c1 : Nat) (l1 : List S55) (r1 : List Int) (r2 : Int) (w : World) (hr1 : Kd.C k55 w A1 l1.length l1) (hc1 : l1.length ≤ c1) (hl : l1.length ≤ 10000)
  (hv : ∀ e ∈ l1, 0 ≤ e.f0 ∧ e.f0 < n ∧ 0 ≤ e.f1 ∧ e.f1 < n) (h : orderOf n l1 = some (r1, r2)) :
  Calls Try.prog 34 #[.int .i64 n, .slice A1 l1.length c1] w fun e w' => ∃ v, e = .returned (.tuple #[v, .int .i64 r2]) ∧ KI.R 3 w' w.heap.size (fun _ => True) v r1 ∧ Below w.heap.size w w' := by
 have HH := Aside0.mk h
 clear h
 have hmk := print_make_int (P := Try.prog) 26 3 (.int .i64 0) 8 Try.underlying26 It.info3 rfl (by omega) (n : Int) (by omega) (by simp; omega)
 rw [Int.toNat_natCast] at hmk
 go_enter Try.func34, Try.ntmps34
 go_upto_region 4 with (go_at_call 44; refine (newGraph_calls n hn A1 c1 l1 _ hr1 hc1 hl hv).mono ?_; rintro e W1 ⟨B1, B2, rfl, ⟨wK, hp, hk1, hk2⟩, hb⟩; have HP := Aside0.mk hp; have HK := Aside0.mk (And.intro hk1 hk2); have HB := Aside0.mk hb; clear hp hk1 hk2 hb)
 obtain ⟨rows, hrows⟩ : ∃ rows, rows = tidy (built n l1 true) := ⟨_, rfl⟩
 obtain ⟨prevs, hprevs⟩ : ∃ prevs, prevs = tidy (built n l1 false) := ⟨_, rfl⟩
 have hN : rows.length = n := by rw [hrows, tidy_length, built_length]
 have hNp : prevs.length = n := by rw [hprevs, tidy_length, built_length]
 have hfits : Fits rows := by rw [hrows]; exact fits_tidy hv true
 have hlens : ∀ r ∈ rows, r.length ≤ 10000 := by rw [hrows]; intro r hr; have := len_tidy n l1 true r hr; omega
 have hlensp : ∀ r ∈ prevs, r.length ≤ 10000 := by rw [hprevs]; intro r hr; have := len_tidy n l1 false r hr; omega
 have HH2 := HH.out
 have HK2 := HK.out
 unfold orderOf at HH2
 rw [← hrows, ← hprevs] at HH2
 rw [← hrows, ← hprevs] at HK2
 have HHm := Aside0.mk HH2
 have HKm := Aside0.mk HK2
 have hz1 : w.heap.size ≤ W1.heap.size := HB.out.size
 have hb2 := alloc2 W1 (.cells #[.slice (some ⟨B1, 0, none⟩) n n, .slice (some ⟨B2, 0, none⟩) n n] 73) (.cells (madeCells #[.int .i64 0] n) 3)
 rw [made0] at hb2
 have HS : Aside0 (OSt w ((W1.alloc (.cells #[.slice (some ⟨B1, 0, none⟩) n n, .slice (some ⟨B2, 0, none⟩) n n] 73)).alloc (.cells (madeCells #[.int .i64 0] n) 3)) wK (W1.heap.size + 1 + 1) W1.heap.size (W1.heap.size + 1) B1 B2 n (start1 prevs n 0).1 (.slice none 0 0) (start1 prevs n 0).2 (.slice none 0 0) []) :=
  ⟨by rw [made0]; exact ⟨hb2.1, hb2.2.1, fun a v h => by
   obtain ⟨p1, p2, p3⟩ := HP.out a v h
   exact ⟨⟨by omega, by omega⟩, pw_cell_below hb2.2.2 p3⟩, QueI.of (Kd.Q_of_R (Kd.R_nil KI 3 _ _ (fun _ => True))), RowI.of (Kd.R_nil KI 3 _ _ (fun _ => True)), fun k hk => by simp [Value.ownBlock] at hk, HB.out.trans (hb2.2.2.mono hz1), by simp only [World.size_alloc]; omega, by omega, by omega, by omega, hz1, by omega⟩⟩
 clear HH2 HK2 HH HK HP HB hb2 hrows hprevs hv hr1 hmk
 generalize ((W1.alloc (.cells #[.slice (some ⟨B1, 0, none⟩) n n, .slice (some ⟨B2, 0, none⟩) n n] 73)).alloc (.cells (madeCells #[.int .i64 0] n) 3)) = W2 at HS ⊢
 generalize W1.heap.size + 1 + 1 = B at HS ⊢
 generalize W1.heap.size + 1 = L at HS ⊢
 generalize W1.heap.size = gb at HS hz1 ⊢
 go_wp2
 go_loopg [8, 22] (n + 1) (fun m v8 v wr => ∃ k : Nat, v = .int .i64 k ∧ k ≤ n ∧ n < m + k ∧ Aside0 (OSt w wr wK B gb L B1 B2 n (start1 prevs n k).1 v8 (start1 prevs n k).2 (.slice none 0 0) []))
 case atStart => exact ⟨0, rfl, Nat.zero_le _, by omega, HS⟩
 case round =>
  clear HS
  obtain ⟨k, rfl, hk1, hk2, HS⟩ := hrel
  by_cases hlt : k < n
  ·obtain ⟨hw1, hw2, _, _⟩ := start1_len prevs n k
   obtain ⟨adr, A0, c0, hA, hrc, hrl, hRr⟩ := at_row HKm.out.2 (k : Int) (by omega) (by omega)
   obtain rfl : (⟨B2, 0, none⟩ : Addr) = adr := by injection hA
   clear hA
   rw [add_plain, Int.toNat_natCast] at hrc
   have kr := (HS.out.p _ _ hrc).2
   have kg : wr.cell? ⟨gb, 1, none⟩ = some (.slice (some ⟨B2, 0, none⟩) n n) := (blk_cell HS.out.g 1).trans rfl
   have kl := ints_cell HS.out.l (k : Int) (by omega) (by rw [hw1]; omega)
   rw [Int.toNat_natCast] at kl
   have kfz := blk_frozen HS.out.l k
   have hkI : (k : Int) < (n : Int) := by omega
   have hstep := start1_succ prevs n k
   have HST := Aside0.mk hstep
   have hw2b : ((start1 prevs n k).2.length + 1) * 8 ≤ 140737488355328 := by omega
   clear hstep hw1 hw2
   go_upto_region 8 with (fail)
   have HS2 := Aside0.mk (HS.out.store k ((row prevs k).length : Int))
   have kl2 : (wr.setCell ⟨L, k, none⟩ (.int .i64 ((row prevs k).length : Int))).cell? ⟨L, k, none⟩ = some (.int .i64 ((row prevs k).length : Int)) := World.cell?_setCell_same' _ _ _ (by rw [kl]; rfl)
   generalize wr.setCell ⟨L, k, none⟩ (.int .i64 ((row prevs k).length : Int)) = w2 at HS2 kl2 ⊢
   clear HS kl kfz kr kg hrc
   obtain ⟨m1, rfl⟩ : ∃ m1, gk = m1 + 1 := ⟨gk - 1, by omega⟩
   by_cases h0 : ((row prevs k).length : Int) = 0
   ·have h0b : (((row prevs k).length : Int) == 0) = true := by simpa using h0
    have H0 := Aside0.mk h0
    clear h0
    go_wp2_with ((with_reducible refine gate_builtin (b := .append) (xs := #[.tmp 39, .tmp 41]) rfl ?_); at_builtin; go_loud (refine Kd.Q_append (Kd.int .i64) (w0 := w2) B rfl (.tmp 39) (.tmp 41) 26 3 (.int .i64 0) 8 rfl Try.underlying26 It.info3 rfl (by decide) (by omega) u8 (start1 prevs n k).2 (k : Int) [.int .i64 k] (fun _ => True) (fun _ => False) rfl rfl ?aP (fun _ hk => hk.elim) (fun _ _ => trivial) HS2.out.q.any ?aB ?aS hw2b ?_; (case aP => exact rfl); (case aB => exact ⟨rfl, rfl, rfl, Nat.le_refl _, fun _ _ => rfl⟩); (case aS => exact HS2.out.sz)); intro v5 w5 ho hb hg hat; have I5 := Aside0.mk (HS2.out.qs hg (QueI.of ho) hat); clear ho hb hg hat)
    go_roundg m1
    case measure => omega
    case rel => exact ⟨k + 1, by go_num, by omega, by omega, ⟨by rw [HST.out, if_pos H0.out]; exact I5.out⟩⟩
   ·have h0b : (((row prevs k).length : Int) == 0) = false := by simpa using h0
    have H0 := Aside0.mk h0
    clear h0
    go_wp2
    go_roundg m1
    case measure => omega
    case rel => exact ⟨k + 1, by go_num, by omega, by omega, ⟨by rw [HST.out, if_neg H0.out]; exact HS2.out⟩⟩
  ·obtain rfl : k = n := by omega
   obtain ⟨hw1, hw2, hw3, hw4⟩ := start1_len prevs k k
   obtain ⟨r, hr, hrr⟩ := Option.map_eq_some_iff.1 HHm.out
   have HRR := Aside0.mk hrr
   have HG : Aside0 (((start1 prevs k k).1.length = k ∧ (∀ x ∈ (start1 prevs k k).2, 0 ≤ x ∧ x < (k : Int)) ∧ (start1 prevs k k).2.Pairwise (· ≤ ·) ∧ ([] : List Int).length + (k + 1) = k + 1 ∧ (start1 prevs k k).2.length ≤ 510000) ∧ ordGo rows (k + 1) (start1 prevs k k).1 (start1 prevs k k).2 [] = some r) := ⟨⟨hw1, hw3, hw4, by simp, by omega⟩, hr⟩
   clear HHm hr hrr hw1 hw2 hw3 hw4
   go_wp2
   go_loopg [8, 9] (k + 1) (fun m v8 v9 wr => ∃ waits ready out, Aside0 (OSt w wr wK B gb L B1 B2 k waits v8 ready v9 out) ∧ Aside0 ((waits.length = k ∧ (∀ x ∈ ready, 0 ≤ x ∧ x < (k : Int)) ∧ ready.Pairwise (· ≤ ·) ∧ out.length + m = k + 1 ∧ ready.length ≤ 510000) ∧ ordGo rows m waits ready out = some r))
   case atStart => exact ⟨_, _, _, HS, HG⟩
   case round =>
    clear HS HG
    obtain ⟨waits, ready, out, HS, HG⟩ := hrel
    obtain ⟨k1, rfl⟩ : ∃ k1, gk = k1 + 1 := by
     cases gk with
     | zero => exact absurd HG.out.2 (by simp [ordGo])
     | succ k1 => exact ⟨k1, rfl⟩
    obtain ⟨Aq, cq, hq, _⟩ := Kd.Q_slice HS.out.q
    subst hq
    obtain ⟨A9, c9, hq9⟩ := Kd.R_slice HS.out.o
    subst hq9
    cases ready with
    | nil =>
     have hr : out = r := by have := HG.out.2; unfold ordGo at this; exact Option.some.inj this
     subst hr
     have hrr := HRR.out
     by_cases hlt2 : out.length < k
     ·rw [if_pos hlt2] at hrr
      have HR3 := Aside0.mk hrr
      clear hrr
      have hltI : decide ((out.length : Int) < (k : Int)) = true := by simpa using hlt2
      have hltD : decide (out.length < k) = true := by simpa using hlt2
      go_wp2
      have hrr := HR3.out
      injection hrr with e1 e2
      subst e1 e2
      exact bodyPost_ret (results_tmp2 rfl _ _ _) rfl ⟨_, rfl, Kd.R_nil KI 3 _ _ (fun _ => True), HS.out.be⟩
     ·rw [if_neg hlt2] at hrr
      have HR3 := Aside0.mk hrr
      clear hrr
      have hltI : decide ((out.length : Int) < (k : Int)) = false := by simpa using hlt2
      have hltD : decide (out.length < k) = false := by simpa using hlt2
      go_wp2
      have hrr := HR3.out
      injection hrr with e1 e2
      subst e1 e2
      exact bodyPost_ret (results_tmp2 rfl _ _ _) rfl ⟨_, rfl, Kd.R_lower HS.out.o.any (by have := HS.out.wg; have := HS.out.gB; omega), HS.out.be⟩
    | cons x q' =>
     obtain ⟨hx0, hx1⟩ := HG.out.1.2.1 x (by simp)
     obtain ⟨ad, he, hcx⟩ := Kd.at_int (Kd.Q_reads' HS.out.q).2.2 0 (by omega) (by simp)
     subst he
     rw [show ((0 : Int)).toNat = 0 from rfl, Addr.add_zero', show rd (x :: q') 0 = x from rfl] at hcx
     obtain ⟨i0, hi0, _, hsz0, _⟩ := info_parts It.info3
     have hcut := cut_from (P := Try.prog) 26 3 .i64 Try.underlying26 hi0 1 hsz0 (some ad) (x :: q').length cq 1 (by omega) (by simp; omega)
     have HI := Aside0.mk (HS.out.drop (by simp))
     obtain ⟨A8, hA8⟩ : ∃ A8, A8 = (if cq = (1 : Int).toNat then (some ad) else ((some ad) : Option Addr).map (·.add ((1 : Int).toNat * 1))) := ⟨_, rfl⟩
     rw [← hA8] at hcut
     have HI : Aside0 (OSt w wr wK B gb L B1 B2 k waits (.slice A8 q'.length (cq - 1)) q' (.slice A9 out.length c9) out) := ⟨by rw [hA8]; exact HI.out⟩
     clear hA8
     simp only [List.length_cons, Nat.add_sub_cancel] at hcut
     have hgo : q'.length ≤ 500000 ∧ ordGo rows k1 (takeRow (row rows x) waits q').1 (takeRow (row rows x) waits q').2 (out ++ [x]) = some r := by
      have h := HG.out.2
      unfold ordGo at h
      split at h
      ·exact absurd h (by simp)
      ·exact ⟨by omega, h⟩
     have HGo := Aside0.mk hgo
     have hG2 : waits.length = k ∧ (∀ z ∈ q', 0 ≤ z ∧ z < (k : Int)) ∧ q'.Pairwise (· ≤ ·) ∧ q'.length ≤ 500000 := ⟨HG.out.1.1, fun z hz => HG.out.1.2.1 z (by simp [hz]), (List.pairwise_cons.1 HG.out.1.2.2.1).2, hgo.1⟩
     have HG2 := Aside0.mk hG2
     have hob : (out.length + 1) * 8 ≤ 140737488355328 := by have := HG.out.1.2.2.2.1; omega
     have hfuel := HG.out.1.2.2.2.1
     obtain ⟨adr, A0, c0, hA, hrc, hrl, hRr⟩ := at_row HKm.out.1 x hx0 (by omega)
     obtain rfl : (⟨B1, 0, none⟩ : Addr) = adr := by injection hA
     clear hA
     rw [add_plain] at hrc
     have hRl : (row rows x).length ≤ 10000 := hlens _ (row_mem hx0 (by omega))
     have hRf : ∀ z ∈ row rows x, 0 ≤ z ∧ z < (k : Int) := fun z hz => by have := fits_row hfits x z hz; omega
     obtain ⟨R, hR⟩ : ∃ R, R = row rows x := ⟨_, rfl⟩
     rw [← hR] at hrc hrl hRr hRl hRf HGo
     clear HS HG hgo hG2 hR
     go_upto_region 15 with ((with_reducible refine gate_builtin (b := .append) (xs := #[.tmp 52, .tmp 54]) rfl ?_); at_builtin; go_loud (refine Kd.R_append (Kd.int .i64) (w0 := wr) B rfl (.tmp 52) (.tmp 54) 26 3 (.int .i64 0) 8 rfl Try.underlying26 It.info3 rfl (by decide) (by omega) (.slice A9 out.length c9) out x [.int .i64 x] (fun _ => True) (fun _ => False) rfl rfl ?aP (fun _ hk => hk.elim) (fun _ _ => trivial) HI.out.o.any ?aB ?aS hob ?_; (case aP => exact rfl); (case aB => exact ⟨rfl, rfl, rfl, Nat.le_refl _, fun _ _ => rfl⟩); (case aS => exact HI.out.sz)); intro v5 w5 ho hb hg hat; have I5 := Aside0.mk (HI.out.outs hg (RowI.of ho) hat); clear ho hb hg hat)
     have kg : w5.cell? ⟨gb, 0, none⟩ = some (.slice (some ⟨B1, 0, none⟩) k k) := (blk_cell I5.out.g 0).trans rfl
     have kr := (I5.out.p _ _ hrc).2
     clear HI hcut hcx
     go_wp2
     clear kg kr
     go_loopg [8, 62] (R.length + 1) (fun m v8 v wr2 => ∃ (i : Nat) (waits2 ready2 : List Int), v = .int .i64 i ∧ i ≤ R.length ∧ R.length < m + i ∧ Aside0 (OSt w wr2 wK B gb L B1 B2 k waits2 v8 ready2 v5 (out ++ [x])) ∧ Aside0 (takeRow (R.drop i) waits2 ready2 = takeRow R waits q') ∧ Aside0 (waits2.length = k ∧ (∀ z ∈ ready2, 0 ≤ z ∧ z < (k : Int)) ∧ ready2.Pairwise (· ≤ ·) ∧ ready2.length ≤ 500000 + i))
     case atStart => exact ⟨0, waits, q', rfl, Nat.zero_le _, by omega, I5, ⟨rfl⟩, ⟨HG2.out.1, HG2.out.2.1, HG2.out.2.2.1, by have := HG2.out.2.2.2; omega⟩⟩
     case round =>
      clear I5
      obtain ⟨i, waits2, ready2, rfl, hi1, hi2, HS, HX, HI⟩ := hrel
      by_cases hlt : i < R.length
      ·obtain ⟨adi, hei, hci⟩ := Kd.at_int hRr (i : Int) (by omega) (by omega)
       subst hei
       rw [Int.toNat_natCast] at hci
       have hci2 := (HS.out.p _ _ hci).2
       obtain ⟨y, hy⟩ : ∃ y, y = rd R (i : Int) := ⟨_, rfl⟩
       rw [← hy] at hci2
       obtain ⟨hy0, hy1⟩ := hRf y (by rw [hy]; unfold rd; rw [List.getD_eq_getElem?_getD, List.getElem?_eq_getElem (by simpa using hlt)]; exact List.getElem_mem _)
       have HX2 : Aside0 (takeRow (y :: R.drop (i + 1)) waits2 ready2 = takeRow R waits q') := ⟨by have := HX.out; rw [drop_rd hlt, ← hy] at this; exact this⟩
       have kl := ints_cell HS.out.l y hy0 (by have := HI.out.1; omega)
       have kfz := blk_frozen HS.out.l y.toNat
       have hyk : y < (k : Int) := hy1
       have hltD : decide (i < R.length) = true := by simpa using hlt
       have hltI : decide ((i : Int) < (R.length : Int)) = true := by simpa using hlt
       obtain ⟨z, hz⟩ : ∃ z, z = wrap64 (rd waits2 y - 1) := ⟨_, rfl⟩
       have HZ := Aside0.mk hz
       clear hy HX hci hz
       obtain ⟨m1, rfl⟩ : ∃ m1, gk = m1 + 1 := ⟨gk - 1, by omega⟩
       go_upto_region 19 with (fail)
       rw [← HZ.out]
       have HS2 := Aside0.mk (HS.out.store y.toNat z)
       have kl2 : (wr.setCell ⟨L, y.toNat, none⟩ (.int .i64 z)).cell? ⟨L, y.toNat, none⟩ = some (.int .i64 z) := World.cell?_setCell_same' _ _ _ (by rw [kl]; rfl)
       generalize wr.setCell ⟨L, y.toNat, none⟩ (.int .i64 z) = w2 at HS2 kl2 ⊢
       clear HS kl kfz hci2
       by_cases h0 : z = 0
       ·subst h0
        obtain ⟨A8', c8, hq8, _⟩ := Kd.Q_slice HS2.out.q
        subst hq8
        have hC := (Kd.Q_reads' HS2.out.q).2.2
        have hlen2 : ready2.length ≤ 1000000 := by have := HI.out.2.2.2; omega
        have hsort := HI.out.2.2.1
        go_upto_region 21 with (go_at_call 51; go_loud (refine (search_row w2 A8' _ c8 ready2 y hC hlen2 hsort).mono ?_); rintro e w3 ⟨rfl, q, hq⟩; have HQ := Aside0.mk hq; clear hq)
        have HS3 : Aside0 (OSt w w3 wK B gb L B1 B2 k (waits2.set y.toNat 0) (.slice A8' ready2.length c8) ready2 v5 (out ++ [x])) := ⟨by rw [HQ.out]; exact HS2.out.later (pw_below_drewN (Below.refl _ _) q)⟩
        have hC3 : KI.C w3 A8' ready2.length ready2 := (Kd.Q_reads' HS3.out.q).2.2
        obtain ⟨p0, hp0⟩ : ∃ p0 : Nat, p0 = ready2.countP (· < y) := ⟨_, rfl⟩
        have hp1 : p0 ≤ ready2.length := by rw [hp0]; exact countP_le _ _
        rw [← hp0]
        have HP0 := Aside0.mk hp0
        clear hp0 HS2 kl2 HQ hC hsort
        go_wp2_with (first
         | (go_at_call 48; go_loud (refine (clone_row w3 A8' _ c8 ready2 hC3 hlen2).mono ?_); rintro e w4 ⟨vc, rfl, hr4, hb4⟩; have HR4 := Aside0.mk hr4; have HB4 := Aside0.mk hb4; clear hr4 hb4)
         | (go_at_call 52; go_loud (refine (insert_row (w4.alloc (.cells #[.int .i64 y] 3)) w3.heap.size w4.heap.size vc ready2 p0 y (HR4.out.move (fun j hj => Below.heap_alloc _ _ _ (Kd.R_lt HR4.out j hj))) (by have := HB4.out.size; rw [World.size_alloc]; omega) hlen2 hp1 (blk_new w4 _) (fun e => by have := Kd.R_lt HR4.out _ e; omega)).mono ?_); rintro e w6 ⟨v6, rfl, hr6, hg6, _⟩; have HS6 := Aside0.mk (HS3.out.fresh (((below_alloc (Below.refl _ _) _).mono HB4.out.size |> HB4.out.trans).grown hg6 (by have := HB4.out.size; rw [World.size_alloc]; omega) (fun j e => Kd.R_base HR4.out j e)) hr6); clear hr6 hg6))
        go_roundg m1
        case measure => omega
        case rel =>
         refine ⟨i + 1, _, _, by go_num, by omega, by omega, HS6, ⟨?_⟩, ⟨by rw [List.length_set]; exact HI.out.1, fun t ht => ?_, ?_, ?_⟩⟩
         ·rw [← HX2.out]
          simp only [takeRow]
          rw [← HZ.out, if_pos rfl, HP0.out]
         ·rcases mem_insertAt ht with ht | ht
          ·subst ht; exact ⟨hy0, hyk⟩
          ·exact HI.out.2.1 t ht
         ·rw [HP0.out]; exact insert_sorted _ _ HI.out.2.2.1
         ·rw [insertAt_length _ _ _ hp1]; have := HI.out.2.2.2; omega
       ·have H0 := Aside0.mk h0
        have h0b : (z == 0) = false := by simpa using h0
        clear h0
        go_wp2
        go_roundg m1
        case measure => omega
        case rel =>
         refine ⟨i + 1, _, _, by go_num, by omega, by omega, HS2, ⟨?_⟩, ⟨by rw [List.length_set]; exact HI.out.1, HI.out.2.1, HI.out.2.2.1, by have := HI.out.2.2.2; omega⟩⟩
         rw [← HX2.out]
         simp only [takeRow]
         rw [← HZ.out, if_neg H0.out]
      ·obtain rfl : i = R.length := by omega
       have HXe := HX.out
       rw [List.drop_length] at HXe
       have HX2 := Aside0.mk HXe
       clear HXe HX
       have hltD : decide (R.length < R.length) = false := by simp
       go_wp2
       go_roundg k1
       case measure => omega
       case rel =>
        refine ⟨waits2, ready2, out ++ [x], HS, ⟨⟨HI.out.1, HI.out.2.1, HI.out.2.2.1, by rw [List.length_append, List.length_singleton]; omega, by have := HI.out.2.2.2; omega⟩, ?_⟩⟩
        have h1 := HGo.out.2
        rw [← HX2.out] at h1
        exact h1
end Go.Proofs.Ytlldjinejckbaaa.Od

end
section
namespace Go.Proofs.Ytlldjinejckbaaa.PD
open Go.RowKit Go.Proofs.YtlldjinejckbaaaW.PrintWords Go.Proofs.YtlldjinejckbaaaW.PrintLast Go.Proofs.YtlldjinejckbaaaW.PrintMore
attribute [local go_sem] max2_int min2_int max_two min_two max_three min_three max_four min_four
set_option linter.unusedVariables false
set_option linter.unusedSimpArgs false
def digraph_Order.f (a0 : Int) (l1 : List (S55)) : Option (List Int × Int) := if 0 ≤ a0 ∧ a0 ≤ 1000 ∧ l1.length ≤ 10000 ∧ ∀ e ∈ l1, 0 ≤ e.f0 ∧ e.f0 < a0 ∧ 0 ≤ e.f1 ∧ e.f1 < a0 then Od.orderOf a0.toNat l1 else none
theorem digraph_Order.calls (a0 : Int) (A1 : Option Addr) (c1 : Nat) (l1 : List (S55)) (r1 : List Int) (r2 : Int) (w : World) (hr1 : Kd.C k55 w A1 l1.length l1) (hc1 : l1.length ≤ c1) (h : digraph_Order.f a0 l1 = some (r1, r2)) :
  Calls Try.prog 34 #[.int .i64 a0, .slice A1 l1.length c1] w fun e w' => ∃ v0_ : Value, e = .returned (.tuple #[v0_, .int .i64 r2]) ∧ Kd.R (Kd.int .i64) 3 w' w.heap.size (fun _ => True) v0_ r1 ∧ Below w.heap.size w w' := by
 unfold digraph_Order.f at h
 split at h
 ·rename_i hp
  obtain ⟨n, rfl⟩ := Int.eq_ofNat_of_zero_le hp.1
  rw [Int.toNat_natCast] at h
  exact Od.Order_calls n (by omega) A1 c1 l1 r1 r2 w hr1 hc1 hp.2.2.1 hp.2.2.2 h
 ·cases h
end Go.Proofs.Ytlldjinejckbaaa.PD

end
section
namespace Go.Proofs.Ytlldjinejckbaaa.PD
open Go.RowKit Go.Proofs.YtlldjinejckbaaaW.PrintWords Go.Proofs.YtlldjinejckbaaaW.PrintLast Go.Proofs.YtlldjinejckbaaaW.PrintMore
attribute [local go_sem] max2_int min2_int max_two min_two max_three min_three max_four min_four
set_option linter.unusedVariables false
set_option linter.unusedSimpArgs false
def wireloomlaw05_order.f (a0_0 : Int) (l0_1 : List (S55)) : Option (List Int × Int) := (digraph_Order.f a0_0 l0_1).bind fun bt113 => (some (bt113.1, bt113.2))
set_option maxHeartbeats 8000000 in
set_option maxRecDepth 100000 in
theorem wireloomlaw05_order.calls (a0_0 : Int) (A0_1 : Option Addr) (c0_1 : Nat) (l0_1 : List (S55)) (r1 : List Int) (r2 : Int) (w : World) (hr0_1 : Kd.C k55 w A0_1 l0_1.length l0_1) (hc0_1 : l0_1.length ≤ c0_1) (h : wireloomlaw05_order.f a0_0 l0_1 = some (r1, r2)) :
  Calls Try.prog 15 #[.agg #[.int .i64 a0_0, .slice A0_1 l0_1.length c0_1]] w fun e w' => ∃ v0_ : Value, e = .returned (.agg #[v0_, .int .i64 r2]) ∧ Kd.R (Kd.int .i64) 3 w' w.heap.size (fun _ => True) v0_ r1 ∧ Below w.heap.size w w' := by
 have hu31 := Try.underlying31
 have hu37 := Try.underlying37
 have HR0_1 := Aside0.mk hr0_1
 have HC0_1 := Aside0.mk hc0_1
 clear hr0_1 hc0_1
 have HB := Aside0.mk (Below.refl w.heap.size w)
 have H : ((digraph_Order.f a0_0 l0_1).bind fun bt113 => (some (bt113.1, bt113.2))) = some (r1, r2) := h
 clear h
 replace H := Option.bind_eq_some_iff.mp H
 obtain ⟨⟨t113, t114⟩, A20, H⟩ := H
 replace H : (some (t113, t114)) = some (r1, r2) := H
 have A2 := Aside0.mk A20
 clear A20
 simp only [Option.some.injEq, Prod.mk.injEq] at H
 obtain ⟨rfl, rfl⟩ := H
 go_enter Try.func15, Try.ntmps15
 go_wp2_with (first | ((with_reducible refine gate_dst (N := 1) rfl ?_); refine box_event ?hg (N := 1) ?hd (cs := #[.int .i64 a0_0, .slice A0_1 l0_1.length c0_1]) (t := 31) ?hr ?_; (case hd => rfl); (case hg => rfl); (case hr => first | (go_simp; done) | (go_simp; rfl)); intro gb111 hg w3 hbox hb; have BK111 := Aside0.mk (hbox); have GW111 := Aside0.mk ((by rw [hg]; exact (below_size (wB0 HB.out)) : w.heap.size ≤ gb111)); have GE111 := Aside0.mk ((by rw [hg]; exact (below_size (wB0 HB.out)) : w.heap.size ≤ gb111)); replace HB := Aside0.mk (below_step (wB0 HB.out) hb); clear hb hbox hg) | ((with_reducible refine gate_dst (N := 2) rfl ?_); refine box_event ?hg (N := 2) ?hd (cs := #[.slice none 0 0, .int .i64 0]) (t := 37) ?hr ?_; (case hd => rfl); (case hg => rfl); (case hr => first | (go_simp; done) | (go_simp; rfl)); intro gb112 hg w4 hbox hb; have BK112 := Aside0.mk (hbox); have GW112 := Aside0.mk ((by rw [hg]; exact (below_size (wB1 HB.out GE111.out)) : w.heap.size ≤ gb112)); have GE112 := Aside0.mk ((by rw [hg]; exact (below_size (wB1 HB.out GE111.out)) : w.heap.size ≤ gb112)); replace HB := Aside0.mk (below_step (wB1 HB.out GE111.out) hb); have NB111_112 := Aside0.mk ((by rw [hg]; exact Nat.ne_of_lt (blk_lt (g := gb111) (o := .cells #[.int .i64 a0_0, .slice A0_1 l0_1.length c0_1] 31 (0, 0)) (bA BK111.out)) : gb111 ≠ gb112)); have NB112_111 := Aside0.mk ((by rw [hg]; exact Nat.ne_of_gt (blk_lt (g := gb111) (o := .cells #[.int .i64 a0_0, .slice A0_1 l0_1.length c0_1] 31 (0, 0)) (bA BK111.out)) : gb112 ≠ gb111)); replace BK111 := kC BK111 hb; clear hb hbox hg; have hnb5 := NB111_112.out; have hnc5 := NB112_111.out; have hcz6_0 : w4.cell? ⟨gb111, 0, none⟩ = some (.int .i64 a0_0) := (blk_cell BK111.out 0).trans rfl; have hcz6_1 : w4.cell? ⟨gb111, 1, none⟩ = some (.slice A0_1 l0_1.length c0_1) := (blk_cell BK111.out 1).trans rfl; have hfz6_0 := blk_frozen BK111.out 0; have hfz6_1 := blk_frozen BK111.out 1) | ((with_reducible refine gate_callee (f := 34) rfl ?_); refine goesL_ (some 10) rfl rfl Try.func34 (by kernel_rfl) rfl #[.int .i64 a0_0, .slice A0_1 l0_1.length c0_1] rfl (by (try simp only [List.map_toArray, List.map_cons, List.map_nil]); first | done | rfl | (simp only [List.length_drop, List.length_take]; rfl)) ?_; (with_reducible refine (digraph_Order.calls a0_0 _ _ l0_1 t113 t114 _ ?side1 ?side2 A2.out).mono ?_); (case side1 => exact cA (Kd.C_below HR0_1.out HB.out)); (case side2 => exact HC0_1.out); rintro e w7 ⟨v115, rfl, ho0, hb⟩; refine ⟨_, rfl, ?_⟩; have HO116 := Aside0.mk (Kd.R_lower ho0 (below_size (wB2 HB.out GE111.out GE112.out))); replace BK111 := kC BK111 hb; replace BK112 := kC BK112 hb; replace HB := Aside0.mk (below_step (wB2 HB.out GE111.out GE112.out) hb); (try clear hb); (try clear hb2); (try clear hk); (try clear hi); (try clear ho0); obtain ⟨Ao8, co8, eo8⟩ := Kd.R_slice HO116.out; subst eo8; have hcz9_0 : w7.cell? ⟨gb112, 0, none⟩ = some (.slice none 0 0) := (blk_cell BK112.out 0).trans rfl; have hcz9_1 : w7.cell? ⟨gb112, 1, none⟩ = some (.int .i64 0) := (blk_cell BK112.out 1).trans rfl; have hfz9_0 := blk_frozen BK112.out 0; have hfz9_1 := blk_frozen BK112.out 1))
 refine bodyPost_ret (results_cell_row rfl _ _ gb112 37 #[.slice Ao8 t113.length co8, .int .i64 t114] (0, 0) _ rfl (by (with_reducible repeat (first | refine blk_drewN ?_ _ | refine blk_drew ?_ | refine blk_alloc ?_ _)); refine blk_put (cs := #[.slice Ao8 t113.length co8, .int .i64 0]) ?_ 1 _ rfl; (with_reducible repeat (first | refine blk_drewN ?_ _ | refine blk_drew ?_ | refine blk_alloc ?_ _)); refine blk_put (cs := #[.slice none 0 0, .int .i64 0]) ?_ 0 _ rfl; (with_reducible repeat (first | refine blk_drewN ?_ _ | refine blk_drew ?_ | refine blk_alloc ?_ _)); exact BK112.out) Try.underlying37 rfl (by kernel_rfl)) rfl ?_
 exact ⟨_, eS, by (with_reducible repeat (first | apply Kd.R_alloc | apply Kd.R_drewN | apply Kd.R_drew)); exact Kd.R_mono (Kd.R_far (p := ⟨gb112, 1, none⟩) (Kd.R_far (p := ⟨gb112, 0, none⟩) (Kd.R_types HO116.out BK112.out (by decide)) (fun _ hk => hk.2) (.slice Ao8 t113.length co8)) (fun _ hk => hk.2) (.int .i64 t114)) (fun _ hk => trivial), by repeat (first | (with_reducible first | exact HB.out | apply below_alloc | apply pw_below_drewN | apply below_drew1 | refine below_set ?_ GE111.out | refine below_set ?_ GE112.out) | exact HB.out)⟩
end Go.Proofs.Ytlldjinejckbaaa.PD

end
section
namespace Go.Proofs.Ytlldjinejckbaaa.PD
open Go.RowKit Go.Proofs.YtlldjinejckbaaaW.PrintWords Go.Proofs.YtlldjinejckbaaaW.PrintLast Go.Proofs.YtlldjinejckbaaaW.PrintMore
attribute [local go_sem] max2_int min2_int max_two min_two max_three min_three max_four min_four
set_option linter.unusedVariables false
set_option linter.unusedSimpArgs false
def digraph_Cycle.f (a0 : Int) (l1 : List (S55)) : Option (List Int × Int) := if 0 ≤ a0 ∧ a0 ≤ 1000 ∧ l1.length ≤ 10000 ∧ ∀ e ∈ l1, 0 ≤ e.f0 ∧ e.f0 < a0 ∧ 0 ≤ e.f1 ∧ e.f1 < a0 then Cy.cycleOf a0.toNat l1 else none
theorem digraph_Cycle.calls (a0 : Int) (A1 : Option Addr) (c1 : Nat) (l1 : List (S55)) (r1 : List Int) (r2 : Int) (w : World) (hr1 : Kd.C k55 w A1 l1.length l1) (hc1 : l1.length ≤ c1) (h : digraph_Cycle.f a0 l1 = some (r1, r2)) :
  Calls Try.prog 36 #[.int .i64 a0, .slice A1 l1.length c1] w fun e w' => ∃ v0_ : Value, e = .returned (.tuple #[v0_, .int .i64 r2]) ∧ Kd.R (Kd.int .i64) 3 w' w.heap.size (fun _ => True) v0_ r1 ∧ Below w.heap.size w w' := by
 unfold digraph_Cycle.f at h
 split at h
 ·rename_i hp
  obtain ⟨n, rfl⟩ := Int.eq_ofNat_of_zero_le hp.1
  rw [Int.toNat_natCast] at h
  exact Cy.Cycle_calls n (by omega) A1 c1 l1 r1 r2 w hr1 hc1 hp.2.2.1 hp.2.2.2 h
 ·cases h
end Go.Proofs.Ytlldjinejckbaaa.PD

end
section
namespace Go.Proofs.Ytlldjinejckbaaa.PD
open Go.RowKit Go.Proofs.YtlldjinejckbaaaW.PrintWords Go.Proofs.YtlldjinejckbaaaW.PrintLast Go.Proofs.YtlldjinejckbaaaW.PrintMore
attribute [local go_sem] max2_int min2_int max_two min_two max_three min_three max_four min_four
set_option linter.unusedVariables false
set_option linter.unusedSimpArgs false
def wireloomlaw05_cycle.f (a0_0 : Int) (l0_1 : List (S55)) : Option (List Int × Int) := (digraph_Cycle.f a0_0 l0_1).bind fun bt122 => (some (bt122.1, bt122.2))
set_option maxHeartbeats 8000000 in
set_option maxRecDepth 100000 in
theorem wireloomlaw05_cycle.calls (a0_0 : Int) (A0_1 : Option Addr) (c0_1 : Nat) (l0_1 : List (S55)) (r1 : List Int) (r2 : Int) (w : World) (hr0_1 : Kd.C k55 w A0_1 l0_1.length l0_1) (hc0_1 : l0_1.length ≤ c0_1) (h : wireloomlaw05_cycle.f a0_0 l0_1 = some (r1, r2)) :
  Calls Try.prog 17 #[.agg #[.int .i64 a0_0, .slice A0_1 l0_1.length c0_1]] w fun e w' => ∃ v0_ : Value, e = .returned (.agg #[v0_, .int .i64 r2]) ∧ Kd.R (Kd.int .i64) 3 w' w.heap.size (fun _ => True) v0_ r1 ∧ Below w.heap.size w w' := by
 have hu31 := Try.underlying31
 have hu37 := Try.underlying37
 have HR0_1 := Aside0.mk hr0_1
 have HC0_1 := Aside0.mk hc0_1
 clear hr0_1 hc0_1
 have HB := Aside0.mk (Below.refl w.heap.size w)
 have H : ((digraph_Cycle.f a0_0 l0_1).bind fun bt122 => (some (bt122.1, bt122.2))) = some (r1, r2) := h
 clear h
 replace H := Option.bind_eq_some_iff.mp H
 obtain ⟨⟨t122, t123⟩, A20, H⟩ := H
 replace H : (some (t122, t123)) = some (r1, r2) := H
 have A2 := Aside0.mk A20
 clear A20
 simp only [Option.some.injEq, Prod.mk.injEq] at H
 obtain ⟨rfl, rfl⟩ := H
 go_enter Try.func17, Try.ntmps17
 go_wp2_with (first | ((with_reducible refine gate_dst (N := 1) rfl ?_); refine box_event ?hg (N := 1) ?hd (cs := #[.int .i64 a0_0, .slice A0_1 l0_1.length c0_1]) (t := 31) ?hr ?_; (case hd => rfl); (case hg => rfl); (case hr => first | (go_simp; done) | (go_simp; rfl)); intro gb120 hg w3 hbox hb; have BK120 := Aside0.mk (hbox); have GW120 := Aside0.mk ((by rw [hg]; exact (below_size (wB0 HB.out)) : w.heap.size ≤ gb120)); have GE120 := Aside0.mk ((by rw [hg]; exact (below_size (wB0 HB.out)) : w.heap.size ≤ gb120)); replace HB := Aside0.mk (below_step (wB0 HB.out) hb); clear hb hbox hg) | ((with_reducible refine gate_dst (N := 2) rfl ?_); refine box_event ?hg (N := 2) ?hd (cs := #[.slice none 0 0, .int .i64 0]) (t := 37) ?hr ?_; (case hd => rfl); (case hg => rfl); (case hr => first | (go_simp; done) | (go_simp; rfl)); intro gb121 hg w4 hbox hb; have BK121 := Aside0.mk (hbox); have GW121 := Aside0.mk ((by rw [hg]; exact (below_size (wB1 HB.out GE120.out)) : w.heap.size ≤ gb121)); have GE121 := Aside0.mk ((by rw [hg]; exact (below_size (wB1 HB.out GE120.out)) : w.heap.size ≤ gb121)); replace HB := Aside0.mk (below_step (wB1 HB.out GE120.out) hb); have NB120_121 := Aside0.mk ((by rw [hg]; exact Nat.ne_of_lt (blk_lt (g := gb120) (o := .cells #[.int .i64 a0_0, .slice A0_1 l0_1.length c0_1] 31 (0, 0)) (bA BK120.out)) : gb120 ≠ gb121)); have NB121_120 := Aside0.mk ((by rw [hg]; exact Nat.ne_of_gt (blk_lt (g := gb120) (o := .cells #[.int .i64 a0_0, .slice A0_1 l0_1.length c0_1] 31 (0, 0)) (bA BK120.out)) : gb121 ≠ gb120)); replace BK120 := kC BK120 hb; clear hb hbox hg; have hnb5 := NB120_121.out; have hnc5 := NB121_120.out; have hcz6_0 : w4.cell? ⟨gb120, 0, none⟩ = some (.int .i64 a0_0) := (blk_cell BK120.out 0).trans rfl; have hcz6_1 : w4.cell? ⟨gb120, 1, none⟩ = some (.slice A0_1 l0_1.length c0_1) := (blk_cell BK120.out 1).trans rfl; have hfz6_0 := blk_frozen BK120.out 0; have hfz6_1 := blk_frozen BK120.out 1) | ((with_reducible refine gate_callee (f := 36) rfl ?_); refine goesL_ (some 10) rfl rfl Try.func36 (by kernel_rfl) rfl #[.int .i64 a0_0, .slice A0_1 l0_1.length c0_1] rfl (by (try simp only [List.map_toArray, List.map_cons, List.map_nil]); first | done | rfl | (simp only [List.length_drop, List.length_take]; rfl)) ?_; (with_reducible refine (digraph_Cycle.calls a0_0 _ _ l0_1 t122 t123 _ ?side1 ?side2 A2.out).mono ?_); (case side1 => exact cA (Kd.C_below HR0_1.out HB.out)); (case side2 => exact HC0_1.out); rintro e w7 ⟨v124, rfl, ho0, hb⟩; refine ⟨_, rfl, ?_⟩; have HO125 := Aside0.mk (Kd.R_lower ho0 (below_size (wB2 HB.out GE120.out GE121.out))); replace BK120 := kC BK120 hb; replace BK121 := kC BK121 hb; replace HB := Aside0.mk (below_step (wB2 HB.out GE120.out GE121.out) hb); (try clear hb); (try clear hb2); (try clear hk); (try clear hi); (try clear ho0); obtain ⟨Ao8, co8, eo8⟩ := Kd.R_slice HO125.out; subst eo8; have hcz9_0 : w7.cell? ⟨gb121, 0, none⟩ = some (.slice none 0 0) := (blk_cell BK121.out 0).trans rfl; have hcz9_1 : w7.cell? ⟨gb121, 1, none⟩ = some (.int .i64 0) := (blk_cell BK121.out 1).trans rfl; have hfz9_0 := blk_frozen BK121.out 0; have hfz9_1 := blk_frozen BK121.out 1))
 refine bodyPost_ret (results_cell_row rfl _ _ gb121 37 #[.slice Ao8 t122.length co8, .int .i64 t123] (0, 0) _ rfl (by (with_reducible repeat (first | refine blk_drewN ?_ _ | refine blk_drew ?_ | refine blk_alloc ?_ _)); refine blk_put (cs := #[.slice Ao8 t122.length co8, .int .i64 0]) ?_ 1 _ rfl; (with_reducible repeat (first | refine blk_drewN ?_ _ | refine blk_drew ?_ | refine blk_alloc ?_ _)); refine blk_put (cs := #[.slice none 0 0, .int .i64 0]) ?_ 0 _ rfl; (with_reducible repeat (first | refine blk_drewN ?_ _ | refine blk_drew ?_ | refine blk_alloc ?_ _)); exact BK121.out) Try.underlying37 rfl (by kernel_rfl)) rfl ?_
 exact ⟨_, eS, by (with_reducible repeat (first | apply Kd.R_alloc | apply Kd.R_drewN | apply Kd.R_drew)); exact Kd.R_mono (Kd.R_far (p := ⟨gb121, 1, none⟩) (Kd.R_far (p := ⟨gb121, 0, none⟩) (Kd.R_types HO125.out BK121.out (by decide)) (fun _ hk => hk.2) (.slice Ao8 t122.length co8)) (fun _ hk => hk.2) (.int .i64 t123)) (fun _ hk => trivial), by repeat (first | (with_reducible first | exact HB.out | apply below_alloc | apply pw_below_drewN | apply below_drew1 | refine below_set ?_ GE120.out | refine below_set ?_ GE121.out) | exact HB.out)⟩
end Go.Proofs.Ytlldjinejckbaaa.PD

end
section
namespace Go.Proofs.Ytlldjinejckbaaa.Dp
open Go Go.RowKit Go.Proofs.YtlldjinejckbaaaW.PrintWords Go.Proofs.YtlldjinejckbaaaW.PrintLast Go.Proofs.YtlldjinejckbaaaW.PrintMore
open Go.Proofs.Ytlldjinejckbaaa.It Go.Proofs.Ytlldjinejckbaaa.Mod Go.Proofs.Ytlldjinejckbaaa.Gs Go.Proofs.Ytlldjinejckbaaa.Lb Go.Proofs.Ytlldjinejckbaaa.Ng Go.Proofs.Ytlldjinejckbaaa.Rc Go.Proofs.Ytlldjinejckbaaa.Lc Go.Proofs.Ytlldjinejckbaaa.Gi Go.Proofs.Ytlldjinejckbaaa.Cy Go.Proofs.Ytlldjinejckbaaa.Ins Go.Proofs.Ytlldjinejckbaaa.Od Go.Proofs.Ytlldjinejckbaaa.PD
set_option linter.unusedVariables false
set_option linter.unusedSimpArgs false
theorem takeRow_mem {y : Int} : ∀ (xs w r : List Int), y ∈ (takeRow xs w r).2 → y ∈ r ∨ y ∈ xs
 | [], w, r, h => .inl h
 | x :: xs, w, r, h => by
  unfold takeRow at h
  split at h
  ·rcases takeRow_mem xs _ _ h with h | h
   ·rcases mem_insertAt h with h | h
    ·exact .inr (by simp [h])
    ·exact .inl h
   ·exact .inr (List.mem_cons_of_mem _ h)
  ·rcases takeRow_mem xs _ _ h with h | h
   ·exact .inl h
   ·exact .inr (List.mem_cons_of_mem _ h)
theorem ordGo_mem {rows : List (List Int)} (hf : Fits rows) : ∀ (k : Nat) (w r out res : List Int), (∀ y ∈ r, 0 ≤ y ∧ y < rows.length) → (∀ y ∈ out, 0 ≤ y ∧ y < rows.length) → ordGo rows k w r out = some res → (∀ y ∈ res, 0 ≤ y ∧ y < rows.length) ∧ res.length ≤ out.length + k
 | 0, w, r, out, res, _, _, h => by simp [ordGo] at h
 | k + 1, w, [], out, res, hr, ho, h => by
  unfold ordGo at h
  rw [← Option.some.inj h]
  exact ⟨ho, by omega⟩
 | k + 1, w, v :: r, out, res, hr, ho, h => by
  unfold ordGo at h
  split at h
  ·exact absurd h (by simp)
  ·have := ordGo_mem hf k _ _ _ res (fun y hy => by
    rcases takeRow_mem _ _ _ hy with hy | hy
    ·exact hr y (List.mem_cons_of_mem _ hy)
    ·exact fits_row hf v y hy) (fun y hy => by
    rcases List.mem_append.1 hy with hy | hy
    ·exact ho y hy
    ·simp at hy; subst hy; exact hr y (by simp)) h
   rw [List.length_append, List.length_singleton] at this
   exact ⟨this.1, by omega⟩
theorem order_mem {n : Nat} {l : List S55} (hv : ∀ e ∈ l, 0 ≤ e.f0 ∧ e.f0 < n ∧ 0 ≤ e.f1 ∧ e.f1 < n) {o : List Int} {e : Int} (h : orderOf n l = some (o, e)) : (∀ y ∈ o, 0 ≤ y ∧ y < (n : Int)) ∧ o.length ≤ n + 1 := by
 obtain ⟨res, hr, hh⟩ := Option.map_eq_some_iff.1 h
 have hl : (tidy (built n l true)).length = n := by rw [tidy_length, built_length]
 have hm := ordGo_mem (fits_tidy hv true) _ _ _ _ res (fun y hy => by
  have := (start1_len (tidy (built n l false)) n n).2.2.1 y hy
  rw [hl]; exact this) (fun y hy => by simp at hy) hr
 rw [hl] at hm
 split at hh
 ·injection hh with e1 e2; subst e1; exact ⟨fun y hy => by simp at hy, by simp⟩
 ·injection hh with e1 e2; subst e1; exact ⟨hm.1, by have := hm.2; simp at this; omega⟩
def stepD (v : Int) (l : List Int) (x : Int) : List Int := l.set x.toNat (max (rd l x) (wrap64 (rd l v + 1)))
def depthGo (rows : List (List Int)) (o l : List Int) : List Int := o.foldl (fun l v => (row rows v).foldl (stepD v) l) l
theorem stepD_len (v : Int) (l : List Int) (x : Int) : (stepD v l x).length = l.length := by simp [stepD]
def depthOf (n : Nat) (l : List S55) : Option (List Int × Int) := (orderOf n l).map fun r => if r.2 = 0 then (depthGo (tidy (built n l true)) r.1 (List.replicate n 0), 0) else ([], r.2)
def dp.T12 : Bool × List (List Nat × List Nat) := (true, [([], []), ([], []), ([], []), ([], []), ([2, 3], [2, 3]), ([4], [4]), ([], []), ([], []), ([6, 7], [6, 7]), ([8], [8]), ([9], [9]), ([5, 10], [5, 10]), ([0, 1, 0, 1, 2, 3, 4, 5, 6, 7, 8, 9, 10, 11], [0, 1]), ([12, 11, 0, 1, 2, 3, 4, 5, 6, 7, 8, 9, 10, 11], [11, 12])])
def dp.B12 : List Nat := [0, 0, 0, 0, 12, 28, 0, 0, 192, 448, 960, 2044, 4095, 8191]
theorem dp.tab12 : rtab .any (opsOf Try.f40 12) = dp.T12 := by kernel_rfl
theorem dp.bits12 : waitsOk dp.T12.2 dp.B12 = true := by kernel_rfl
set_option maxHeartbeats 4000000 in
set_option maxRecDepth 100000 in
theorem Depth_calls (n : Nat) (hn : n ≤ 1000) (A1 : Option Addr) (c1 : Nat) (l1 : List S55) (r1 : List Int) (r2 : Int) (w : World) (hr1 : Kd.C k55 w A1 l1.length l1) (hc1 : l1.length ≤ c1) (hl : l1.length ≤ 10000)
  (hv : ∀ e ∈ l1, 0 ≤ e.f0 ∧ e.f0 < n ∧ 0 ≤ e.f1 ∧ e.f1 < n) (h : depthOf n l1 = some (r1, r2)) :
  Calls Try.prog 40 #[.int .i64 n, .slice A1 l1.length c1] w fun e w' => ∃ v, e = .returned (.tuple #[v, .int .i64 r2]) ∧ KI.R 3 w' w.heap.size (fun _ => True) v r1 ∧ Below w.heap.size w w' := by
 obtain ⟨⟨o, e0⟩, ho, hh⟩ := Option.map_eq_some_iff.1 h
 clear h
 obtain ⟨hom, hol⟩ := order_mem hv ho
 have hcon := Order_calls n hn A1 c1 l1 o e0 w hr1 hc1 hl hv ho
 have HH := Aside0.mk hh
 clear hh ho
 have hmk := print_make_int (P := Try.prog) 26 3 (.int .i64 0) 8 Try.underlying26 It.info3 rfl (by omega) (n : Int) (by omega) (by simp; omega)
 rw [Int.toNat_natCast] at hmk
 go_enter Try.func40, Try.ntmps40
 by_cases he : e0 = 0
 ·subst he
  go_upto_region 6 with (first
   | (go_at_call 34; go_loud (refine hcon.mono ?_); rintro e w1 ⟨v6, rfl, ho6, hb1⟩; obtain ⟨A6, c6, rfl⟩ := Kd.R_slice ho6; have HO := Aside0.mk ho6; have HB1 := Aside0.mk hb1; have hrA := Kd.C_below hr1 hb1; clear ho6 hb1)
   | (go_at_call 44; go_loud (refine (newGraph_calls n hn A1 c1 l1 w1 hrA hc1 hl hv).mono ?_); rintro e W1 ⟨B1, B2, rfl, ⟨wK, hp, hk1, hk2⟩, hb⟩; have HP := Aside0.mk hp; have HK := Aside0.mk hk1; have HB := Aside0.mk hb; clear hp hk1 hk2 hb))
  obtain ⟨rows, hrows⟩ : ∃ rows, rows = tidy (built n l1 true) := ⟨_, rfl⟩
  have hN : rows.length = n := by rw [hrows, tidy_length, built_length]
  have hfits : Fits rows := by rw [hrows]; exact fits_tidy hv true
  have hlens : ∀ r ∈ rows, r.length ≤ 10000 := by rw [hrows]; intro r hr; have := len_tidy n l1 true r hr; omega
  have HH2 := HH.out
  have HK2 := HK.out
  rw [if_pos (by trivial), ← hrows] at HH2
  rw [← hrows] at HK2
  have HHm := Aside0.mk HH2
  have HKm := Aside0.mk HK2
  have hz1 : w.heap.size ≤ w1.heap.size := HB1.out.size
  have hz2 : w1.heap.size ≤ W1.heap.size := HB.out.size
  have hb2 := alloc2 W1 (.cells #[.slice (some ⟨B1, 0, none⟩) n n, .slice (some ⟨B2, 0, none⟩) n n] 73) (.cells (madeCells #[.int .i64 0] n) 3)
  rw [made0] at hb2
  have HF : Aside0 (Fix ((W1.alloc (.cells #[.slice (some ⟨B1, 0, none⟩) n n, .slice (some ⟨B2, 0, none⟩) n n] 73)).alloc (.cells (madeCells #[.int .i64 0] n) 3)) (W1.heap.size + 1) (fun j => j = W1.heap.size + 1) ((W1.alloc (.cells #[.slice (some ⟨B1, 0, none⟩) n n, .slice (some ⟨B2, 0, none⟩) n n] 73)).alloc (.cells (madeCells #[.int .i64 0] n) 3)) 3 ((List.replicate n (0 : Int)).map (Value.int .i64)).toArray) :=
   ⟨by rw [made0]; exact ⟨grown_of_below (Below.refl _ _) _, hb2.2.1, fun _ => Iff.rfl, by simp only [World.size_alloc]; omega⟩⟩
  have HG5 : Aside0 (((W1.alloc (.cells #[.slice (some ⟨B1, 0, none⟩) n n, .slice (some ⟨B2, 0, none⟩) n n] 73)).alloc (.cells (madeCells #[.int .i64 0] n) 3)).heap[W1.heap.size]? = some (.cells #[.slice (some ⟨B1, 0, none⟩) n n, .slice (some ⟨B2, 0, none⟩) n n] 73 (0, 0))) := ⟨by rw [made0]; exact hb2.1⟩
  have HP5 : Aside0 (∀ a v, wK.cell? a = some v → a.block ≠ W1.heap.size + 1 ∧ ((W1.alloc (.cells #[.slice (some ⟨B1, 0, none⟩) n n, .slice (some ⟨B2, 0, none⟩) n n] 73)).alloc (.cells (madeCells #[.int .i64 0] n) 3)).cell? a = some v) := ⟨by
   rw [made0]; intro a v h
   obtain ⟨p1, p2, p3⟩ := HP.out a v h
   exact ⟨by omega, pw_cell_below hb2.2.2 p3⟩⟩
  have HO5 : Aside0 (∀ a v, w1.cell? a = some v → a.block ≠ W1.heap.size + 1 ∧ ((W1.alloc (.cells #[.slice (some ⟨B1, 0, none⟩) n n, .slice (some ⟨B2, 0, none⟩) n n] 73)).alloc (.cells (madeCells #[.int .i64 0] n) 3)).cell? a = some v) := ⟨by
   rw [made0]; intro a v h
   have := World.block_lt_of_cell? _ _ h
   exact ⟨by omega, pw_cell_below hb2.2.2 (pw_cell_below HB.out h)⟩⟩
  have HB5 : Aside0 (Below w.heap.size w ((W1.alloc (.cells #[.slice (some ⟨B1, 0, none⟩) n n, .slice (some ⟨B2, 0, none⟩) n n] 73)).alloc (.cells (madeCells #[.int .i64 0] n) 3))) := ⟨by
   rw [made0]; exact (HB1.out.trans (HB.out.mono hz1)).trans (hb2.2.2.mono (by omega))⟩
  have HOC : Aside0 (KI.C w1 A6 o.length o) := ⟨(Kd.R_reads' HO.out).2.2⟩
  have HOM := Aside0.mk hom
  clear HH2 HK2 HH HK HP HB HB1 HO hb2 hrows hv hr1 hmk hrA hom hcon
  generalize ((W1.alloc (.cells #[.slice (some ⟨B1, 0, none⟩) n n, .slice (some ⟨B2, 0, none⟩) n n] 73)).alloc (.cells (madeCells #[.int .i64 0] n) 3)) = W5 at HF HG5 HP5 HO5 HB5 ⊢
  obtain ⟨gb, hgb⟩ : ∃ gb, gb = W1.heap.size := ⟨_, rfl⟩
  obtain ⟨L, hL⟩ : ∃ L, L = W1.heap.size + 1 := ⟨_, rfl⟩
  rw [← hL, ← hgb]
  rw [← hL] at HF HP5 HO5
  rw [← hgb] at HG5
  have HL : Aside0 (gb ≠ L ∧ w.heap.size ≤ L) := ⟨by omega, by omega⟩
  clear hgb hL
  go_wp2
  go_loopg [30] (o.length + 1) (fun m v wr => ∃ (i : Nat) (cur : List Int), v = .int .i64 i ∧ i ≤ o.length ∧ o.length < m + i ∧ Aside0 (Fix W5 L (fun j => j = L) wr 3 (cur.map (Value.int .i64)).toArray) ∧ Aside0 (cur.length = n ∧ depthGo rows (o.drop i) cur = r1 ∧ r2 = 0))
  case atStart => exact ⟨0, _, rfl, Nat.zero_le _, by omega, HF, ⟨by simp, by have h := HHm.out; injection h, by have h := HHm.out; injection h with h1 h2; exact h2.symm⟩⟩
  case round =>
   clear HF HHm
   obtain ⟨i, cur, rfl, hi1, hi2, HF, HG⟩ := hrel
   by_cases hlt : i < o.length
   ·obtain ⟨ado, heo, hco⟩ := Kd.at_int HOC.out (i : Int) (by omega) (by omega)
    subst heo
    rw [Int.toNat_natCast] at hco
    obtain ⟨v, hvv⟩ : ∃ v, v = rd o (i : Int) := ⟨_, rfl⟩
    rw [← hvv] at hco
    obtain ⟨hv0, hv1⟩ := HOM.out v (by rw [hvv]; unfold rd; rw [List.getD_eq_getElem?_getD, List.getElem?_eq_getElem (by simpa using hlt)]; exact List.getElem_mem _)
    have HX : Aside0 (depthGo rows (o.drop (i + 1)) ((row rows v).foldl (stepD v) cur) = r1) := ⟨by have := HG.out.2.1; rw [drop_rd hlt, ← hvv] at this; exact this⟩
    have ko := HF.out.cell (HO5.out _ _ hco).2 (HO5.out _ _ hco).1
    have kg : wr.cell? ⟨gb, 0, none⟩ = some (.slice (some ⟨B1, 0, none⟩) n n) := HF.out.cell ((blk_cell HG5.out 0).trans rfl) HL.out.1
    obtain ⟨adr, A0, c0, hA, hrc, hrl, hRr⟩ := at_row HKm.out v hv0 (by omega)
    obtain rfl : (⟨B1, 0, none⟩ : Addr) = adr := by injection hA
    clear hA
    rw [add_plain] at hrc
    have kr := HF.out.cell (HP5.out _ _ hrc).2 (HP5.out _ _ hrc).1
    have hRl : (row rows v).length ≤ 10000 := hlens _ (row_mem hv0 (by omega))
    have hRf : ∀ z ∈ row rows v, 0 ≤ z ∧ z < (n : Int) := fun z hz => by have := fits_row hfits v z hz; omega
    obtain ⟨R, hR⟩ : ∃ R, R = row rows v := ⟨_, rfl⟩
    rw [← hR] at hrc hrl hRr hRl hRf HX kr
    have hcl := HG.out.1
    have hr2 := HG.out.2.2
    subst hr2
    have HCL := Aside0.mk hcl
    have hltD : decide (i < o.length) = true := by simpa using hlt
    have hltI : decide ((i : Int) < (o.length : Int)) = true := by simpa using hlt
    clear hR HG hvv hco hrc hcl
    obtain ⟨m1, rfl⟩ : ∃ m1, gk = m1 + 1 := ⟨gk - 1, by omega⟩
    go_wp2
    clear ko kg kr
    go_loopg [40] (R.length + 1) (fun m t wr2 => ∃ (j : Nat) (cur2 : List Int), t = .int .i64 j ∧ j ≤ R.length ∧ R.length < m + j ∧ Aside0 (Fix W5 L (fun j => j = L) wr2 3 (cur2.map (Value.int .i64)).toArray) ∧ Aside0 (cur2.length = n ∧ (R.drop j).foldl (stepD v) cur2 = R.foldl (stepD v) cur))
    case atStart => exact ⟨0, cur, rfl, Nat.zero_le _, by omega, HF, ⟨HCL.out, rfl⟩⟩
    case round =>
     clear HF
     obtain ⟨j, cur2, rfl, hj1, hj2, HF, HI⟩ := hrel
     by_cases hlt2 : j < R.length
     ·obtain ⟨adi, hei, hci⟩ := Kd.at_int hRr (j : Int) (by omega) (by omega)
      subst hei
      rw [Int.toNat_natCast] at hci
      have hci2 := HF.out.cell (HP5.out _ _ hci).2 (HP5.out _ _ hci).1
      obtain ⟨y, hy⟩ : ∃ y, y = rd R (j : Int) := ⟨_, rfl⟩
      rw [← hy] at hci2
      obtain ⟨hy0, hy1⟩ := hRf y (by rw [hy]; unfold rd; rw [List.getD_eq_getElem?_getD, List.getElem?_eq_getElem (by simpa using hlt2)]; exact List.getElem_mem _)
      have HX2 : Aside0 ((R.drop (j + 1)).foldl (stepD v) (stepD v cur2 y) = R.foldl (stepD v) cur) := ⟨by have := HI.out.2; rw [drop_rd hlt2, ← hy] at this; exact this⟩
      have hcl2 := HI.out.1
      have q1 := ints_cell HF.out.c y hy0 (by omega)
      have q2 := ints_cell HF.out.c v hv0 (by omega)
      have hltD2 : decide (j < R.length) = true := by simpa using hlt2
      have hltI2 : decide ((j : Int) < (R.length : Int)) = true := by simpa using hlt2
      clear hy hci
      obtain ⟨m2, rfl⟩ : ∃ m2, gk = m2 + 1 := ⟨gk - 1, by omega⟩
      have HF7 := Aside0.mk HF.out.drew
      go_upto_region 12 with (fail)
      refine only_end ?_
      refine start_ (n := 14) (S := fun w' => w'.cell? ⟨L, y.toNat, none⟩ = some (.int .i64 (rd cur2 y)) ∧ w'.cell? ⟨L, v.toNat, none⟩ = some (.int .i64 (rd cur2 v))) (ds := [13]) #[false, false, false, false, false, false, false, false, false, false, false, false, false, false] (by kernel_rfl) rfl rfl ⟨q1, q2⟩ (fun hHeld => ?_); refine with_tabW dp.tab12 dp.bits12 (fun HT_ HW_ => ?_)
      generalize wr.drew = W7 at HF7 hHeld ⊢
      refine pV 0 44 (bz 14 0x1) HT_.out ?_
      refine pV 1 45 (bz 14 0x3) HT_.out ?_
      refine pV 2 46 (bz 14 0x7) HT_.out ?_
      refine pV 3 47 (bz 14 0xf) HT_.out ?_
      refine pV 4 48 (bz 14 0x1f) HT_.out ?_
      refine pV 6 50 (bz 14 0x5f) HT_.out ?_
      refine pV 7 51 (bz 14 0xdf) HT_.out ?_
      refine pV 8 52 (bz 14 0x1df) HT_.out ?_
      refine tV 5 49 (bz 14 0x1ff) HT_.out HW_.out hHeld rfl rfl (by rintro w' ⟨s0, s1⟩; go_simp; with_reducible rfl) ?_
      refine tV 9 53 (bz 14 0x3ff) HT_.out HW_.out hHeld rfl rfl (by rintro w' ⟨s0, s1⟩; go_simp; with_reducible rfl) ?_
      refine pV 10 54 (bz 14 0x7ff) HT_.out ?_
      refine pV 11 55 (bz 14 0xfff) HT_.out ?_
      refine pV 12 56 (bz 14 0x1fff) HT_.out ?_
      refine last_ (i := 13) (N := none) (bz 14 0x3fff) rfl rfl (one_of HT_.out (by kernel_rfl)) (by decide) (fun K hK => ?_)
      have hfz : W7.frozen? ⟨L, y.toNat, none⟩ = false := blk_frozen HF7.out.c _
      have hcl := hHeld.1
      refine skip_ (w1 := W7.setCell ⟨L, y.toNat, none⟩ (.int .i64 (max (rd cur2 y) (wrap64 (rd cur2 v + 1))))) (by rfl) rfl ?hrS ?_
      case hrS => first | (go_simp; done) | (go_simp; rfl)
      refine hK.out _ _ ?_
      clear hK K
      refine done_ (done_of HT_.out (by kernel_rfl)) ?_
      unfold OnlyEnd
      try dsimp only
      go_wp2
      go_roundg m2
      case measure => omega
      case rel =>
       refine ⟨j + 1, stepD v cur2 y, by go_num, by omega, by omega, ⟨?_⟩, ⟨by rw [stepD_len]; exact hcl2, HX2.out⟩⟩
       have hs := (HF7.out.set y.toNat (.int .i64 (max (rd cur2 y) (wrap64 (rd cur2 v + 1))))).2
       rw [set_ints] at hs
       exact hs
     ·obtain rfl : j = R.length := by omega
      have hXe := HI.out.2
      rw [List.drop_length] at hXe
      have HX3 := Aside0.mk hXe
      clear hXe
      have hltD2 : decide (R.length < R.length) = false := by simp
      go_wp2
      go_roundg m1
      case measure => omega
      case rel => exact ⟨i + 1, cur2, by go_num, by omega, by omega, HF, ⟨HI.out.1, by rw [show cur2 = R.foldl (stepD v) cur from HX3.out]; exact HX.out, by trivial⟩⟩
   ·obtain rfl : i = o.length := by omega
    have hXe := HG.out.2.1
    rw [List.drop_length] at hXe
    have HX3 : Aside0 (cur = r1) := ⟨hXe⟩
    have hr2 := HG.out.2.2
    clear hXe
    subst hr2
    have hltD : decide (o.length < o.length) = false := by simp
    go_wp2
    refine bodyPost_ret (results_tmp2 rfl _ _ _) rfl ⟨_, rfl, ?_, ?_⟩
    ·rw [← HX3.out]
     exact (row_of_block HF.out.c HL.out.2 HG.out.1 (Nat.le_refl _) (by unfold maxLen; omega) (by simp; exact HG.out.1) (fun j hj => by rw [List.getElem?_toArray, List.getElem?_map])).any
    ·exact HB5.out.trans (Gi.below_grown HF.out.g HL.out.2 (Nat.le_trans HL.out.2 (Nat.le_of_lt HF.out.lt)))
 ·have heb : (e0 == 0) = false := by simpa using he
  have hh := HH.out
  rw [if_neg he] at hh
  have HH2 := Aside0.mk hh
  clear hh
  go_wp2_with (go_at_call 34; go_loud (refine hcon.mono ?_); rintro e w1 ⟨v6, rfl, ho6, hb1⟩; have HB1 := Aside0.mk hb1; clear hb1)
  have hh := HH2.out
  injection hh with e1 e2
  subst e1 e2
  exact bodyPost_ret (results_tmp2 rfl _ _ _) rfl ⟨_, rfl, Kd.R_nil KI 3 _ _ (fun _ => True), HB1.out⟩
end Go.Proofs.Ytlldjinejckbaaa.Dp

end
section
namespace Go.Proofs.Ytlldjinejckbaaa.Ck
open Go Go.RowKit Go.Proofs.YtlldjinejckbaaaW.PrintWords Go.Proofs.YtlldjinejckbaaaW.PrintLast Go.Proofs.YtlldjinejckbaaaW.PrintMore
open Go.Proofs.Ytlldjinejckbaaa.It Go.Proofs.Ytlldjinejckbaaa.Mod Go.Proofs.Ytlldjinejckbaaa.Gs Go.Proofs.Ytlldjinejckbaaa.Lb Go.Proofs.Ytlldjinejckbaaa.Ng Go.Proofs.Ytlldjinejckbaaa.Rc Go.Proofs.Ytlldjinejckbaaa.Lc Go.Proofs.Ytlldjinejckbaaa.Gi Go.Proofs.Ytlldjinejckbaaa.Cy Go.Proofs.Ytlldjinejckbaaa.Ins Go.Proofs.Ytlldjinejckbaaa.Od Go.Proofs.Ytlldjinejckbaaa.PD
set_option linter.unusedVariables false
set_option linter.unusedSimpArgs false
def ck.T1 : Bool × List (List Nat × List Nat) := (true, [([], []), ([], []), ([1], [1]), ([0, 2], [0, 2]), ([3], [3]), ([], []), ([], []), ([6], [6]), ([5, 7], [5, 7]), ([8], [8]), ([4, 9], [4, 9]), ([10, 0, 1, 2, 3, 4, 5, 6, 7, 8, 9, 10], [10])])
def ck.B1 : List Nat := [0, 0, 2, 7, 15, 0, 0, 64, 224, 480, 1023, 2047]
theorem ck.tab1 : rtab .any (opsOf Try.f42 1) = ck.T1 := by kernel_rfl
theorem ck.bits1 : waitsOk ck.T1.2 ck.B1 = true := by kernel_rfl
set_option maxHeartbeats 2000000 in
theorem closure_calls (n : Nat) (bx L lc : Nat) (at_ : List Int) (hl : at_.length = n) (w : World) (h1 : w.cell? ⟨bx, 0, none⟩ = some (.slice (some ⟨L, 0, none⟩) n lc))
  (h5 : ∀ y : Int, 0 ≤ y → y < n → w.cell? ⟨L, y.toNat, none⟩ = some (.int .i64 (rd at_ y))) (f t : Int) (hf0 : 0 ≤ f) (hf1 : f < n) (ht0 : 0 ≤ t) (ht1 : t < n) :
  Calls Try.prog 42 #[.agg #[.int .i64 f, .int .i64 t], .pointer (some ⟨bx, 0, none⟩)] w fun e w' => e = .returned (.bool (decide (rd at_ t ≤ rd at_ f))) ∧ Below w.heap.size w w' := by
 have hb := below_alloc (Below.refl w.heap.size w) (.cells #[.int .i64 f, .int .i64 t] 55)
 have q1 := pw_cell_below hb h1
 have q4 := pw_cell_below hb (h5 f hf0 hf1)
 have q5 := pw_cell_below hb (h5 t ht0 ht1)
 have hn := blk_new w (.cells #[.int .i64 f, .int .i64 t] 55)
 have q2 : (w.alloc (.cells #[.int .i64 f, .int .i64 t] 55)).cell? ⟨w.heap.size, 0, none⟩ = some (.int .i64 f) := (blk_cell hn 0).trans rfl
 have q3 : (w.alloc (.cells #[.int .i64 f, .int .i64 t] 55)).cell? ⟨w.heap.size, 1, none⟩ = some (.int .i64 t) := (blk_cell hn 1).trans rfl
 have HB := Aside0.mk hb
 clear hb hn h1 h5
 go_enter Try.func42, Try.ntmps42
 go_upto_region 1 with (fail)
 generalize (w.alloc (.cells #[.int .i64 f, .int .i64 t] 55)) = W at q1 q2 q3 q4 q5 HB ⊢
 generalize hsz : w.heap.size = eb at q2 q3 ⊢
 clear hsz
 refine start_ (n := 12) (S := fun w' => w'.cell? ⟨bx, 0, none⟩ = some (.slice (some ⟨L, 0, none⟩) n lc) ∧ w'.cell? ⟨eb, 0, none⟩ = some (.int .i64 f) ∧ w'.cell? ⟨eb, 1, none⟩ = some (.int .i64 t) ∧ w'.cell? ⟨L, f.toNat, none⟩ = some (.int .i64 (rd at_ f)) ∧ w'.cell? ⟨L, t.toNat, none⟩ = some (.int .i64 (rd at_ t))) (ds := []) #[false, false, false, false, false, false, false, false, false, false, false, false] (by kernel_rfl) rfl rfl ⟨q1, q2, q3, q4, q5⟩ (fun hHeld => ?_); refine with_tabW ck.tab1 ck.bits1 (fun HT_ HW_ => ?_)
 refine pV 1 5 (bz 12 0x2) HT_.out ?_
 refine pV 6 10 (bz 12 0x42) HT_.out ?_
 refine tV 0 4 (bz 12 0x43) HT_.out HW_.out hHeld rfl rfl (by rintro w' ⟨s0, s1, s2, s3, s4⟩; go_simp; with_reducible rfl) ?_
 refine tV 2 6 (bz 12 0x47) HT_.out HW_.out hHeld rfl rfl (by rintro w' ⟨s0, s1, s2, s3, s4⟩; go_simp; with_reducible rfl) ?_
 refine pV 3 7 (bz 12 0x4f) HT_.out ?_
 refine tV 4 8 (bz 12 0x5f) HT_.out HW_.out hHeld rfl rfl (by rintro w' ⟨s0, s1, s2, s3, s4⟩; go_simp; with_reducible rfl) ?_
 refine tV 5 9 (bz 12 0x7f) HT_.out HW_.out hHeld rfl rfl (by rintro w' ⟨s0, s1, s2, s3, s4⟩; go_simp; with_reducible rfl) ?_
 refine tV 7 11 (bz 12 0xff) HT_.out HW_.out hHeld rfl rfl (by rintro w' ⟨s0, s1, s2, s3, s4⟩; go_simp; with_reducible rfl) ?_
 refine pV 8 12 (bz 12 0x1ff) HT_.out ?_
 refine tV 9 13 (bz 12 0x3ff) HT_.out HW_.out hHeld rfl rfl (by rintro w' ⟨s0, s1, s2, s3, s4⟩; go_simp; with_reducible rfl) ?_
 refine pV 10 14 (bz 12 0x7ff) HT_.out ?_
 refine pV 11 3 (bz 12 0xfff) HT_.out ?_
 refine done_ (done_of HT_.out (by kernel_rfl)) ?_
 go_wp2
 exact bodyPost_ret (results_tmp rfl _ _ _) rfl ⟨by simp, below_drew HB.out⟩
abbrev Ed (n : Nat) := { e : S55 // 0 ≤ e.f0 ∧ e.f0 < (n : Int) ∧ 0 ≤ e.f1 ∧ e.f1 < (n : Int) }
def encE (e : S55) : List Value := [.int .i64 e.f0, .int .i64 e.f1]
theorem edge_cells {w : World} {A : Option Addr} {xs : List S55} (h : Kd.C k55 w A xs.length xs) (h0 : xs ≠ []) : ∃ b off, A = some ⟨b, off, none⟩ ∧ ∀ j (hj : j < xs.length) i v, (encE xs[j])[i]? = some v → w.cell? ⟨b, off + j * 2 + i, none⟩ = some v := by
 have hp : 0 < xs.length := List.length_pos_iff.2 h0
 have key : ∀ j (hj : j < xs.length), ∃ ad, A = some ad ∧ ∀ i v, (encE xs[j])[i]? = some v → w.cell? (ad.add (j * 2 + i)) = some v := fun j hj => by
  obtain ⟨ad, c, e, _, hK, hc0⟩ := Kd.C_get h z55 (j : Int) (by omega) (by omega)
  obtain rfl := k55_open hK
  rw [Int.toNat_natCast, List.getD_eq_getElem?_getD, List.getElem?_eq_getElem hj] at hc0
  exact ⟨ad, e, hc0⟩
 obtain ⟨⟨b, off, sp⟩, hA, hc⟩ := key 0 hp
 have hs : sp = none := by
  cases sp with
  | none => rfl
  | some p =>
   have hc := hc 0 _ rfl
   simp only [Addr.add, Nat.zero_mul, Nat.add_zero, if_pos] at hc
   unfold World.cell? at hc
   simp at hc
   split at hc <;> simp at hc
 subst hs
 refine ⟨b, off, hA, fun j hj i v hi => ?_⟩
 obtain ⟨ad, hA2, hc2⟩ := key j hj
 rw [hA] at hA2
 injection hA2 with hA2
 subst hA2
 have := hc2 i v hi
 rwa [show (⟨b, off, none⟩ : Addr).add (j * 2 + i) = ⟨b, off + j * 2 + i, none⟩ by
  unfold Addr.add
  split
  ·have : j = 0 ∧ i = 0 := by omega
   obtain ⟨rfl, rfl⟩ := this; rfl
  ·rw [Nat.add_assoc]] at this
theorem index_none (A : Option Addr) (c : Nat) (fv : Value) (w : World) : Calls Try.prog 56 #[.slice A 0 c, fv] w fun e w' => e = .returned (.int .i64 (-1)) ∧ w' = w := by
 go_enter Try.func56, Try.ntmps56
 go_wp2
 go_loopg [8] 1 (fun m v wr => v = .int .i64 0 ∧ wr = w)
 case atStart => exact ⟨rfl, rfl⟩
 case round =>
  obtain ⟨rfl, rfl⟩ := hrel
  go_wp2
  exact bodyPost_ret (results_tmp rfl _ _ _) rfl ⟨rfl, rfl⟩
theorem contains_none (A : Option Addr) (c : Nat) (fv : Value) (w : World) : Calls Try.prog 41 #[.slice A 0 c, fv] w fun e w' => e = .returned (.bool false) ∧ w' = w := by
 go_enter Try.func41, Try.ntmps41
 go_wp2_with (go_at_call 56; refine (index_none A c fv w).mono ?_; rintro e w' ⟨rfl, rfl⟩)
 exact bodyPost_ret (results_tmp rfl _ _ _) rfl ⟨rfl, rfl⟩
theorem contains_edges (n : Nat) (A1 : Option Addr) (c1 : Nat) (l1 : List S55) (bx L lc : Nat) (at_ : List Int) (hl : at_.length = n) (w : World) (hr1 : Kd.C k55 w A1 l1.length l1) (hls : l1.length ≤ 10000)
  (hv : ∀ e ∈ l1, 0 ≤ e.f0 ∧ e.f0 < (n : Int) ∧ 0 ≤ e.f1 ∧ e.f1 < (n : Int)) (h1 : w.cell? ⟨bx, 0, none⟩ = some (.slice (some ⟨L, 0, none⟩) n lc))
  (h5 : ∀ y : Int, 0 ≤ y → y < n → w.cell? ⟨L, y.toNat, none⟩ = some (.int .i64 (rd at_ y))) :
  Calls Try.prog 41 #[.slice A1 l1.length c1, .func (.func 42) #[] #[.pointer (some ⟨bx, 0, none⟩)]] w fun e w' => e = .returned (.bool (l1.any fun e => decide (rd at_ e.f1 ≤ rd at_ e.f0))) ∧ Below w.heap.size w w' := by
 by_cases h0 : l1 = []
 ·subst h0
  refine (contains_none A1 c1 _ w).mono ?_
  rintro e w' ⟨rfl, rfl⟩
  exact ⟨rfl, Below.refl _ _⟩
 obtain ⟨b, off, rfl, hcell⟩ := edge_cells hr1 h0
 have hpos : 0 < l1.length := List.length_pos_iff.2 h0
 haveI : Inhabited (Ed n) := ⟨⟨l1[0], hv _ (List.getElem_mem hpos)⟩⟩
 obtain ⟨zs, hzs⟩ : ∃ zs : List (Ed n), zs = l1.pmap (fun x h => (⟨x, h⟩ : Ed n)) hv := ⟨_, rfl⟩
 have hzl : zs.length = l1.length := by rw [hzs]; simp
 have hz : ∀ j (hj : j < l1.length), (zs[j]!).1 = l1[j] := fun j hj => by
  rw [getElem!_pos zs j (by omega)]
  subst hzs
  simp
 have hcon := AnyQ.slices_ContainsFunc Try.laysH08_f41 2 Try.isAgg55 Try.sizeOf55 (fun e : Ed n => encE e.1) (fun _ => rfl) (fun e => decide (rd at_ e.1.f1 ≤ rd at_ e.1.f0)) 42 #[.pointer (some ⟨bx, 0, none⟩)]
  (enters_of Try.func42 (by kernel_rfl) rfl) b off l1.length c1 zs w
  (fun W x hb => closure_calls n bx L lc at_ hl W (pw_cell_below hb h1) (fun y h0 h1 => pw_cell_below hb (h5 y h0 h1)) x.1.f0 x.1.f1 x.2.1 x.2.2.1 x.2.2.2.1 x.2.2.2.2 |> fun h => h.mono (fun e w' h => ⟨h.1, hb.trans (h.2.mono hb.size)⟩))
  (by omega) (by omega) (World.block_lt_of_cell? _ _ (hcell 0 hpos 0 _ rfl)) (fun j hj i v hi => hcell j (by omega) i v (by rw [← hz j (by omega)]; exact hi))
 refine Calls.mono (P := Try.prog) (f := 41) hcon ?_
 rintro e w' ⟨rfl, hb⟩
 refine ⟨?_, hb⟩
 have e1 : (zs.take l1.length).any (fun e => decide (rd at_ e.1.f1 ≤ rd at_ e.1.f0)) = l1.any fun e => decide (rd at_ e.f1 ≤ rd at_ e.f0) := by
  rw [← hzl, List.take_length, hzs]
  have : ∀ (l : List S55) (h : ∀ e ∈ l, 0 ≤ e.f0 ∧ e.f0 < (n : Int) ∧ 0 ≤ e.f1 ∧ e.f1 < (n : Int)), (l.pmap (fun x h => (⟨x, h⟩ : Ed n)) h).any (fun e => decide (rd at_ e.1.f1 ≤ rd at_ e.1.f0)) = l.any fun e => decide (rd at_ e.f1 ≤ rd at_ e.f0) := by
   intro l
   induction l with
   | nil => intro h; rfl
   | cons x l ih => intro h; rw [List.pmap, List.any_cons, List.any_cons, ih]
  exact this l1 hv
 rw [e1]
def checkGo (n : Nat) : List Int → Int → List Int → Option (List Int)
 | [], _, a => some a
 | v :: vs, i, a => if v < 0 ∨ (n : Int) ≤ v ∨ 0 < rd a v then none else checkGo n vs (i + 1) (a.set v.toNat (wrap64 (i + 1)))
def checkOf (n : Nat) (l : List S55) (order : List Int) : Int :=
 match checkGo n order 0 (List.replicate n 0) with
 | none => 6
 | some a => if (order.length : Int) ≠ n then 6 else if (l.any fun e => decide (rd a e.f1 ≤ rd a e.f0)) = true then 6 else 0
set_option maxHeartbeats 4000000 in
set_option maxRecDepth 100000 in
theorem Check_calls (n : Nat) (hn : n ≤ 1000) (A1 : Option Addr) (c1 : Nat) (l1 : List S55) (A2 : Option Addr) (c2 : Nat) (l2 : List Int) (w : World) (hr1 : Kd.C k55 w A1 l1.length l1) (hr2 : KI.C w A2 l2.length l2) (hl : l1.length ≤ 10000) (hl2 : l2.length ≤ 1000000)
  (hv : ∀ e ∈ l1, 0 ≤ e.f0 ∧ e.f0 < (n : Int) ∧ 0 ≤ e.f1 ∧ e.f1 < (n : Int)) :
  Calls Try.prog 21 #[.int .i64 n, .slice A1 l1.length c1, .slice A2 l2.length c2] w fun e w' => e = .returned (.int .i64 (checkOf n l1 l2)) ∧ Below w.heap.size w w' := by
 have hmk := print_make_int (P := Try.prog) 26 3 (.int .i64 0) 8 Try.underlying26 It.info3 rfl (by omega) (n : Int) (by omega) (by simp; omega)
 rw [Int.toNat_natCast] at hmk
 go_enter Try.func21, Try.ntmps21
 go_upto_region 2 with (fail)
 have hb2 := alloc2 w (.cells (madeCells #[.int .i64 0] n) 3) (.cells #[.slice (some ⟨w.heap.size, 0, none⟩) n n] 26)
 rw [made0] at hb2
 have HF : Aside0 (Fix ((w.alloc (.cells (madeCells #[.int .i64 0] n) 3)).alloc (.cells #[.slice (some ⟨w.heap.size, 0, none⟩) n n] 26)) w.heap.size (fun j => j = w.heap.size) ((w.alloc (.cells (madeCells #[.int .i64 0] n) 3)).alloc (.cells #[.slice (some ⟨w.heap.size, 0, none⟩) n n] 26)) 3 ((List.replicate n (0 : Int)).map (Value.int .i64)).toArray) :=
  ⟨by rw [made0]; exact ⟨grown_of_below (Below.refl _ _) _, hb2.1, fun _ => Iff.rfl, by simp only [World.size_alloc]; omega⟩⟩
 have HB5 : Aside0 (Below w.heap.size w ((w.alloc (.cells (madeCells #[.int .i64 0] n) 3)).alloc (.cells #[.slice (some ⟨w.heap.size, 0, none⟩) n n] 26)) ∧ ((w.alloc (.cells (madeCells #[.int .i64 0] n) 3)).alloc (.cells #[.slice (some ⟨w.heap.size, 0, none⟩) n n] 26)).heap[w.heap.size + 1]? = some (.cells #[.slice (some ⟨w.heap.size, 0, none⟩) n n] 26 (0, 0))) := ⟨by rw [made0]; exact ⟨hb2.2.2, hb2.2.1⟩⟩
 clear hb2 hmk
 generalize ((w.alloc (.cells (madeCells #[.int .i64 0] n) 3)).alloc (.cells #[.slice (some ⟨w.heap.size, 0, none⟩) n n] 26)) = W5 at HF HB5 ⊢
 obtain ⟨bx, hbx⟩ : ∃ bx, bx = w.heap.size + 1 := ⟨_, rfl⟩
 obtain ⟨L, hL⟩ : ∃ L, L = w.heap.size := ⟨_, rfl⟩
 rw [← hbx, ← hL]
 rw [← hbx, ← hL] at HB5
 rw [← hL] at HF
 have HL := Aside0.mk (And.intro hbx hL)
 have HR1 := Aside0.mk hr1
 clear hbx hL hr1
 go_wp2
 go_loopg [14] (l2.length + 1) (fun m v wr => ∃ (i : Nat) (a : List Int), v = .int .i64 i ∧ i ≤ l2.length ∧ l2.length < m + i ∧ Aside0 (Fix W5 L (fun j => j = L) wr 3 (a.map (Value.int .i64)).toArray) ∧ Aside0 (a.length = n ∧ checkGo n (l2.drop i) i a = checkGo n l2 0 (List.replicate n 0)))
 case atStart => exact ⟨0, _, rfl, Nat.zero_le _, by omega, HF, ⟨by simp, rfl⟩⟩
 case round =>
  clear HF
  obtain ⟨i, a, rfl, hi1, hi2, HF, HG⟩ := hrel
  have HBe : Aside0 (Below w.heap.size w wr) := ⟨by have h := HB5.out.1; have hL := HL.out.2; rw [hL] at h; exact h.trans (Gi.below_grown HF.out.g (by omega) (by have := HF.out.lt; omega))⟩
  have kb : wr.cell? ⟨bx, 0, none⟩ = some (.slice (some ⟨L, 0, none⟩) n n) := HF.out.cell ((blk_cell HB5.out.2 0).trans rfl) (by have := HL.out; show bx ≠ L; omega)
  by_cases hlt : i < l2.length
  ·obtain ⟨ado, heo, hco⟩ := Kd.at_int hr2 (i : Int) (by omega) (by omega)
   subst heo
   rw [Int.toNat_natCast] at hco
   obtain ⟨v, hvv⟩ : ∃ v, v = rd l2 (i : Int) := ⟨_, rfl⟩
   rw [← hvv] at hco
   have ko := pw_cell_below HBe.out hco
   have hgo := HG.out.2
   rw [drop_rd hlt, ← hvv] at hgo
   have HGo := Aside0.mk hgo
   have hal := HG.out.1
   have hltD : decide (i < l2.length) = true := by simpa using hlt
   have hltI : decide ((i : Int) < (l2.length : Int)) = true := by simpa using hlt
   clear hvv hco hgo HG
   obtain ⟨m1, rfl⟩ : ∃ m1, gk = m1 + 1 := ⟨gk - 1, by omega⟩
   by_cases h1 : v < 0
   ·have hce : Aside0 (checkOf n l1 l2 = 6) := ⟨by unfold checkOf; rw [← HGo.out]; unfold checkGo; rw [if_pos (.inl h1)]⟩
    go_wp2
    exact bodyPost_ret (results_tmp rfl _ _ _) rfl ⟨by rw [hce.out]; rfl, HBe.out⟩
   ·by_cases h2 : (n : Int) ≤ v
    ·have hce : Aside0 (checkOf n l1 l2 = 6) := ⟨by unfold checkOf; rw [← HGo.out]; unfold checkGo; rw [if_pos (.inr (.inl h2))]⟩
     go_wp2
     exact bodyPost_ret (results_tmp rfl _ _ _) rfl ⟨by rw [hce.out]; rfl, HBe.out⟩
    ·have ka := ints_cell HF.out.c v (by omega) (by omega)
     by_cases h3 : 0 < rd a v
     ·have hce : Aside0 (checkOf n l1 l2 = 6) := ⟨by unfold checkOf; rw [← HGo.out]; unfold checkGo; rw [if_pos (.inr (.inr h3))]⟩
      go_wp2
      exact bodyPost_ret (results_tmp rfl _ _ _) rfl ⟨by rw [hce.out]; rfl, HBe.out⟩
     ·have hst : Aside0 (checkGo n (l2.drop (i + 1)) ((i + 1 : Nat) : Int) (a.set v.toNat (wrap64 ((i : Int) + 1))) = checkGo n l2 0 (List.replicate n 0)) := ⟨by
       rw [show ((i + 1 : Nat) : Int) = (i : Int) + 1 by omega, ← HGo.out]
       have e : checkGo n (v :: l2.drop (i + 1)) (i : Int) a = checkGo n (l2.drop (i + 1)) ((i : Int) + 1) (a.set v.toNat (wrap64 ((i : Int) + 1))) := by rw [checkGo, if_neg (by omega)]
       rw [e]⟩
      have kz := blk_frozen HF.out.c v.toNat
      go_wp2
      go_roundg m1
      case measure => omega
      case rel =>
       have hs := (HF.out.set v.toNat (.int .i64 (wrap64 ((i : Int) + 1)))).2
       rw [set_ints] at hs
       exact ⟨i + 1, a.set v.toNat (wrap64 ((i : Int) + 1)), by go_num, by omega, by omega, ⟨by first | exact hs | (have e : wrap64 ((i : Int) + 1) = (i : Int) + 1 := (by unfold wrap64; omega); rw [e] at hs ⊢; exact hs)⟩, ⟨by rw [List.length_set]; exact hal, hst.out⟩⟩
  ·obtain rfl : i = l2.length := by omega
   have hX := HG.out.2
   rw [List.drop_length] at hX
   have hX2 : checkOf n l1 l2 = if (l2.length : Int) ≠ n then 6 else if (l1.any fun e => decide (rd a e.f1 ≤ rd a e.f0)) = true then 6 else 0 := by
    unfold checkOf; rw [← hX]; rfl
   have HXX := Aside0.mk hX2
   have hal := HG.out.1
   clear hX hX2 HG
   have hltD : decide (l2.length < l2.length) = false := by simp
   by_cases hn2 : (l2.length : Int) = n
   ·have hn2b : ((l2.length : Int) != (n : Int)) = false := by simpa using hn2
    have hcon := contains_edges n A1 c1 l1 bx L n a hal wr (Kd.C_below HR1.out HBe.out) hl hv kb (fun y h0 h1 => ints_cell HF.out.c y h0 (by omega))
    obtain ⟨bb, hbb⟩ : ∃ bb, bb = (l1.any fun e => decide (rd a e.f1 ≤ rd a e.f0)) := ⟨_, rfl⟩
    rw [← hbb] at hcon
    have HXY : Aside0 (checkOf n l1 l2 = if bb = true then 6 else 0) := ⟨by rw [HXX.out, if_neg (by simpa using hn2), hbb]⟩
    clear hbb
    cases bb with
    | true =>
     go_wp2_with (go_at_call 41; refine hcon.mono ?_; rintro e w6 ⟨rfl, hb6⟩; have HB6 := Aside0.mk hb6; clear hb6)
     exact bodyPost_ret (results_tmp rfl _ _ _) rfl ⟨by rw [HXY.out]; rfl, HBe.out.trans (HB6.out.mono HBe.out.size)⟩
    | false =>
     go_wp2_with (go_at_call 41; refine hcon.mono ?_; rintro e w6 ⟨rfl, hb6⟩; have HB6 := Aside0.mk hb6; clear hb6)
     exact bodyPost_ret (results_tmp rfl _ _ _) rfl ⟨by rw [HXY.out]; rfl, HBe.out.trans (HB6.out.mono HBe.out.size)⟩
   ·have hn2b : ((l2.length : Int) != (n : Int)) = true := by simpa using hn2
    have HXY : Aside0 (checkOf n l1 l2 = 6) := ⟨by rw [HXX.out, if_pos hn2]⟩
    go_wp2
    exact bodyPost_ret (results_tmp rfl _ _ _) rfl ⟨by rw [HXY.out]; rfl, HBe.out⟩
end Go.Proofs.Ytlldjinejckbaaa.Ck

end
section
namespace Go.Proofs.Ytlldjinejckbaaa.PD
open Go.RowKit Go.Proofs.YtlldjinejckbaaaW.PrintWords Go.Proofs.YtlldjinejckbaaaW.PrintLast Go.Proofs.YtlldjinejckbaaaW.PrintMore
attribute [local go_sem] max2_int min2_int max_two min_two max_three min_three max_four min_four
set_option linter.unusedVariables false
set_option linter.unusedSimpArgs false
def digraph_Check.f (a0 : Int) (l1 : List (S55)) (l2 : List Int) : Option (Int) := if (0 ≤ a0 ∧ a0 ≤ 1000 ∧ l1.length ≤ 10000 ∧ ∀ e ∈ l1, 0 ≤ e.f0 ∧ e.f0 < a0 ∧ 0 ≤ e.f1 ∧ e.f1 < a0) ∧ l2.length ≤ 1000000 then some (Ck.checkOf a0.toNat l1 l2) else none
theorem digraph_Check.calls (a0 : Int) (A1 : Option Addr) (c1 : Nat) (l1 : List (S55)) (A2 : Option Addr) (c2 : Nat) (l2 : List Int) (r : Int) (w : World) (hr1 : Kd.C k55 w A1 l1.length l1) (hc1 : l1.length ≤ c1) (hr2 : Kd.C (Kd.int .i64) w A2 l2.length l2) (hc2 : l2.length ≤ c2) (h : digraph_Check.f a0 l1 l2 = some r) :
  Calls Try.prog 21 #[.int .i64 a0, .slice A1 l1.length c1, .slice A2 l2.length c2] w fun e w' => e = .returned (.int .i64 r) ∧ Below w.heap.size w w' := by
 unfold digraph_Check.f at h
 split at h
 ·rename_i hp
  obtain ⟨n, rfl⟩ := Int.eq_ofNat_of_zero_le hp.1.1
  rw [Int.toNat_natCast] at h
  rw [← Option.some.inj h]
  exact Ck.Check_calls n (by omega) A1 c1 l1 A2 c2 l2 w hr1 hr2 hp.1.2.2.1 hp.2 hp.1.2.2.2
 ·cases h
end Go.Proofs.Ytlldjinejckbaaa.PD

end
section
namespace Go.Proofs.Ytlldjinejckbaaa.PD
open Go.RowKit Go.Proofs.YtlldjinejckbaaaW.PrintWords Go.Proofs.YtlldjinejckbaaaW.PrintLast Go.Proofs.YtlldjinejckbaaaW.PrintMore
attribute [local go_sem] max2_int min2_int max_two min_two max_three min_three max_four min_four
set_option linter.unusedVariables false
set_option linter.unusedSimpArgs false
mutual
def digraph_Valid.j0 : Nat → Int → List (S55) → Bool → Option (Bool)
 | 0, _, _, _ => none
 | k + 1, x0, x1, x17 => if x17 = true then (some false) else (digraph_Valid.l0 k x0 x1 (x1.length : Int) 0)
def digraph_Valid.l0 : Nat → Int → List (S55) → Int → Int → Option (Bool)
 | 0, _, _, _, _ => none
 | k + 1, x0, x18, x19, x20 => if x20 < x19 then (if 0 ≤ x20 then (if x20 < (x18.length : Int) then (if (mn ((rd_T55 x18 x20).f0) ((rd_T55 x18 x20).f1)) < 0 then (some false) else (if (mx ((rd_T55 x18 x20).f0) ((rd_T55 x18 x20).f1)) ≥ x0 then (some false) else (digraph_Valid.l0 k x0 x18 x19 (wrap64 (x20 + 1))))) else (none)) else (none)) else (some true)
end
def digraph_Valid.f (k : Nat) (a0 : Int) (l1 : List (S55)) : Option (Bool) := if a0 < 0 then (digraph_Valid.j0 k a0 l1 true) else (if a0 > 200 then (digraph_Valid.j0 k a0 l1 true) else (digraph_Valid.j0 k a0 l1 (decide ((l1.length : Int) > 2000))))
theorem digraph_Valid.mono_l : ∀ k, (∀ y0 y1 y2, LeO (digraph_Valid.j0 k y0 y1 y2) (digraph_Valid.j0 (k + 1) y0 y1 y2)) ∧ (∀ y0 y1 y2 y3, LeO (digraph_Valid.l0 k y0 y1 y2 y3) (digraph_Valid.l0 (k + 1) y0 y1 y2 y3))
 | 0 => ⟨fun _ _ _ r h => by simp [digraph_Valid.j0] at h, fun _ _ _ _ r h => by simp [digraph_Valid.l0] at h⟩
 | k + 1 => by
  obtain ⟨ih0, ih1⟩ := digraph_Valid.mono_l k
  refine ⟨?_, ?_⟩
  ·intro y0 y1 y2
   unfold digraph_Valid.j0
   repeat' first
   | (with_reducible exact ih0 _ _ _)
   | (with_reducible exact ih1 _ _ _ _)
   | (with_reducible exact LeO.refl _)
   | (with_reducible exact LeO.none _)
   | (with_reducible refine LeO.ite ?_ ?_)
   | (with_reducible refine LeO.bind ?_ (fun _ => ?_))
   | exact ih0 _ _ _
   | exact ih1 _ _ _ _
   | exact LeO.none _
   | refine LeO.ite ?_ ?_
   | refine LeO.bind ?_ (fun _ => ?_)
  ·intro y0 y1 y2 y3
   unfold digraph_Valid.l0
   repeat' first
   | (with_reducible exact ih0 _ _ _)
   | (with_reducible exact ih1 _ _ _ _)
   | (with_reducible exact LeO.refl _)
   | (with_reducible exact LeO.none _)
   | (with_reducible refine LeO.ite ?_ ?_)
   | (with_reducible refine LeO.bind ?_ (fun _ => ?_))
   | exact ih0 _ _ _
   | exact ih1 _ _ _ _
   | exact LeO.none _
   | refine LeO.ite ?_ ?_
   | refine LeO.bind ?_ (fun _ => ?_)
theorem digraph_Valid.mono : ∀ a0 a1 k, LeO (digraph_Valid.f k a0 a1) (digraph_Valid.f (k + 1) a0 a1) := by
 intro a0 a1 k
 obtain ⟨ih0, ih1⟩ := digraph_Valid.mono_l k
 unfold digraph_Valid.f
 repeat' first
   | (with_reducible exact ih0 _ _ _)
   | (with_reducible exact ih1 _ _ _ _)
   | (with_reducible exact LeO.refl _)
   | (with_reducible exact LeO.none _)
   | (with_reducible refine LeO.ite ?_ ?_)
   | (with_reducible refine LeO.bind ?_ (fun _ => ?_))
   | exact ih0 _ _ _
   | exact ih1 _ _ _ _
   | exact LeO.none _
   | refine LeO.ite ?_ ?_
   | refine LeO.bind ?_ (fun _ => ?_)
set_option maxHeartbeats 8000000 in
set_option maxRecDepth 100000 in
theorem digraph_Valid.calls (k : Nat) (a0 : Int) (A1 : Option Addr) (c1 : Nat) (l1 : List (S55)) (r : Bool) (w : World) (hr1 : Kd.C k55 w A1 l1.length l1) (hc1 : l1.length ≤ c1) (h : digraph_Valid.f k a0 l1 = some r) :
  Calls Try.prog 12 #[.int .i64 a0, .slice A1 l1.length c1] w fun e w' => e = .returned (.bool r) ∧ Below w.heap.size w w' := by
 have hu55 := Try.underlying55
 have HR1 := Aside0.mk hr1
 have HC1 := Aside0.mk hc1
 clear hr1 hc1
 have HB := Aside0.mk (Below.refl w.heap.size w)
 have H : (if a0 < 0 then (digraph_Valid.j0 k a0 l1 true) else (if a0 > 200 then (digraph_Valid.j0 k a0 l1 true) else (digraph_Valid.j0 k a0 l1 (decide ((l1.length : Int) > 2000))))) = some r := h
 clear h
 have HC3 := Aside0.mk H
 clear H
 go_enter Try.func12, Try.ntmps12
 go_upto_region 1 with (fail)
 go_cut [17] (fun v17 wc => ∃ (kq : Nat) (x17_2 : Bool), v17 = .bool x17_2 ∧ Aside0 (digraph_Valid.j0 kq a0 l1 x17_2 = some r) ∧ Aside0 (kq ≤ k) ∧ Aside0 (Below w.heap.size w wc))
 case first =>
  have H := HC3.out
  clear HC3
  by_cases c4 : a0 < 0
  ·rw [if_pos c4] at H
   have c4b0 : decide (a0 < 0) = true := decide_eq_true c4
   clear c4
   (first | rw [c4b0] | (simp only [i64_w, i32_w]; rw [c4b0]) | skip)
   have H' := Aside0.mk H
   clear H
   go_wp2
   go_meet
   case rel => exact ⟨_, (true), rS, H', ⟨by first | omega | exact Nat.le_refl _⟩, ⟨wB0 HB.out⟩⟩
  ·rw [if_neg c4] at H
   have c4b0 : decide (a0 < 0) = false := decide_eq_false c4
   clear c4
   (first | rw [c4b0] | (simp only [i64_w, i32_w]; rw [c4b0]) | skip)
   by_cases c5 : a0 > 200
   ·rw [if_pos c5] at H
    have c5b0 : decide (200 < a0) = true := decide_eq_true c5
    clear c5
    have H' := Aside0.mk H
    clear H
    go_wp2
    go_meet
    case rel => exact ⟨_, (true), rS, H', ⟨by first | omega | exact Nat.le_refl _⟩, ⟨wB0 HB.out⟩⟩
   ·rw [if_neg c5] at H
    have c5b0 : decide (200 < a0) = false := decide_eq_false c5
    clear c5
    have H' := Aside0.mk H
    clear H
    go_wp2
    go_meet
    case rel => exact ⟨_, (decide ((l1.length : Int) > 2000)), rS, H', ⟨by first | omega | exact Nat.le_refl _⟩, ⟨wB0 HB.out⟩⟩
 case rest =>
  clear HC3
  try clear c1; try clear p2; try clear c4; try clear c4b0; try clear c5; try clear c5b0
  obtain ⟨kq, x17_2, rfl, HA, HJ2, HB⟩ := hcut
  cases kq with
  | zero => exact absurd HA.out (by simp [digraph_Valid.j0])
  | succ kj2 =>
   have H := HA.out
   clear HA
   simp only [digraph_Valid.j0] at H
   by_cases c6 : x17_2 = true
   ·subst c6
    have H1 : (some false) = some r := by rw [if_pos rfl] at H; exact H
    clear H
    have H := H1
    clear H1
    obtain rfl := Option.some.inj H
    go_wp2
    go_ret
    exact ⟨eS, by repeat (first | (with_reducible first | exact HB.out | apply below_alloc | apply pw_below_drewN | apply below_drew1) | exact HB.out)⟩
   ·replace c6 := Bool.eq_false_iff.mpr c6
    subst c6
    have H1 : (digraph_Valid.l0 kj2 a0 l1 (l1.length : Int) 0) = some r := by rw [if_neg (show ¬ (false = true) by decide)] at H; exact H
    clear H
    have H := H1
    clear H1
    have H' := Aside0.mk H
    clear H
    go_wp2
    go_loopg [20] kj2 (fun kq v20 w' => ∃ (x20_2 : Int), v20 = .int .i64 x20_2 ∧ Aside0 (digraph_Valid.l0 kq a0 l1 (l1.length : Int) x20_2 = some r) ∧ Aside0 (kq ≤ kj2) ∧ Aside0 (Below w.heap.size w w'))
    case atStart => exact ⟨(0), rS, H', ⟨Nat.le_refl _⟩, ⟨wB0 HB.out⟩⟩
    case round =>
     clear H'
     try clear c1; try clear p2; try clear c4; try clear c4b0; try clear c5; try clear c5b0; try clear c6; try clear p2
     obtain ⟨x20_2, rfl, HA, HK2, HB⟩ := hrel
     cases gk with
     | zero => exact absurd HA.out (by simp [digraph_Valid.l0])
     | succ k2 =>
      have H := HA.out
      clear HA
      simp only [digraph_Valid.l0] at H
      by_cases c7 : x20_2 < (l1.length : Int)
      ·rw [if_pos c7] at H
       have c7b0 : decide (x20_2 < (l1.length : Int)) = true := decide_eq_true c7
       clear c7
       by_cases c8 : 0 ≤ x20_2
       rotate_left
       ·rw [if_neg c8] at H
        exact absurd H (by simp)
       rw [if_pos c8] at H
       have c8b0 : decide (0 ≤ x20_2) = true := decide_eq_true c8
       clear c8
       by_cases c9 : x20_2 < (l1.length : Int)
       rotate_left
       ·rw [if_neg c9] at H
        exact absurd H (by simp)
       rw [if_pos c9] at H
       have c9b0 : decide (x20_2 < (l1.length : Int)) = true := decide_eq_true c9
       clear c9
       obtain ⟨ji10, hji10⟩ : ∃ j_ : Int, (mn ((rd_T55 l1 x20_2).f0) ((rd_T55 l1 x20_2).f1)) = j_ := ⟨_, rfl⟩
       replace H : (if (ji10) < 0 then (some false) else (if (mx ((rd_T55 l1 x20_2).f0) ((rd_T55 l1 x20_2).f1)) ≥ a0 then (some false) else (digraph_Valid.l0 k2 a0 l1 (l1.length : Int) (wrap64 (x20_2 + 1))))) = some r := by first | (rw [hji10] at H; exact H) | (simp only [hji10] at H ⊢; exact H)
       have hji10_ : (if ((rd_T55 l1 x20_2).f1) < ((rd_T55 l1 x20_2).f0) then ((rd_T55 l1 x20_2).f1) else ((rd_T55 l1 x20_2).f0)) = ji10 := hji10
       by_cases c11 : (ji10) < 0
       ·rw [if_pos c11] at H
        have c11b0 : decide ((ji10) < 0) = true := decide_eq_true c11
        clear c11
        obtain rfl := Option.some.inj H
        have p101 : 0 ≤ (x20_2 : Int) := oD
        have q101 : x20_2 < (l1.length : Int) := oD
        obtain ⟨ad101, e101, hx101_0, hx101_1⟩ := at_T55 HR1.out x20_2 p101 q101
        cases e101
        (try (replace hx101_0 := hB HB.out hx101_0))
        (try (replace hx101_1 := hB HB.out hx101_1))
        replace p101 := eq_true p101
        replace q101 := eq_true q101
        go_wp2_with (first | ((with_reducible refine gate_dst (N := 6) rfl ?_); (try (refine gate_guard (by rfl) ?_; dsimp only)); refine box_event ?hg (N := 6) ?hd (cs := #[.int .i64 0, .int .i64 0]) (t := 55) ?hr ?_; (case hd => rfl); (case hg => rfl); (case hr => first | (go_simp; done) | (go_simp; rfl)); intro gb102 hg w12 hbox hb; have BK102 := Aside0.mk (hbox); have GW102 := Aside0.mk ((by rw [hg]; exact (below_size (wB0 HB.out)) : w.heap.size ≤ gb102)); have GE102 := Aside0.mk ((by rw [hg]; exact (below_size (wB0 HB.out)) : w.heap.size ≤ gb102)); replace HB := Aside0.mk (below_step (wB0 HB.out) hb); clear hb hbox hg; have hcz13_0 : w12.cell? ⟨gb102, 0, none⟩ = some (.int .i64 0) := (blk_cell BK102.out 0).trans rfl; have hcz13_1 : w12.cell? ⟨gb102, 1, none⟩ = some (.int .i64 0) := (blk_cell BK102.out 1).trans rfl; have hfz13_0 := blk_frozen BK102.out 0; have hfz13_1 := blk_frozen BK102.out 1))
        go_ret
        exact ⟨by first | rfl | (simp [errW_none, errW_some] <;> rfl) | (simp only [← hji10]; first | rfl | (simp [errW_none, errW_some] <;> rfl)) | (simp [*, errW_none, errW_some] <;> rfl), by repeat (first | (with_reducible first | exact HB.out | apply below_alloc | apply pw_below_drewN | apply below_drew1 | refine below_set ?_ GE102.out) | exact HB.out)⟩
       ·rw [if_neg c11] at H
        have c11b0 : decide ((ji10) < 0) = false := decide_eq_false c11
        clear c11
        obtain ⟨ji14, hji14⟩ : ∃ j_ : Int, (mx ((rd_T55 l1 x20_2).f0) ((rd_T55 l1 x20_2).f1)) = j_ := ⟨_, rfl⟩
        replace H : (if (ji14) ≥ a0 then (some false) else (digraph_Valid.l0 k2 a0 l1 (l1.length : Int) (wrap64 (x20_2 + 1)))) = some r := by first | (rw [hji14] at H; exact H) | (simp only [hji14] at H ⊢; exact H)
        have hji14_ : (if ((rd_T55 l1 x20_2).f0) < ((rd_T55 l1 x20_2).f1) then ((rd_T55 l1 x20_2).f1) else ((rd_T55 l1 x20_2).f0)) = ji14 := hji14
        by_cases c15 : (ji14) ≥ a0
        ·rw [if_pos c15] at H
         have c15b0 : decide (a0 ≤ (ji14)) = true := decide_eq_true c15
         clear c15
         obtain rfl := Option.some.inj H
         have p101 : 0 ≤ (x20_2 : Int) := oD
         have q101 : x20_2 < (l1.length : Int) := oD
         obtain ⟨ad101, e101, hx101_0, hx101_1⟩ := at_T55 HR1.out x20_2 p101 q101
         cases e101
         (try (replace hx101_0 := hB HB.out hx101_0))
         (try (replace hx101_1 := hB HB.out hx101_1))
         replace p101 := eq_true p101
         replace q101 := eq_true q101
         go_wp2_with (first | ((with_reducible refine gate_dst (N := 6) rfl ?_); (try (refine gate_guard (by rfl) ?_; dsimp only)); refine box_event ?hg (N := 6) ?hd (cs := #[.int .i64 0, .int .i64 0]) (t := 55) ?hr ?_; (case hd => rfl); (case hg => rfl); (case hr => first | (go_simp; done) | (go_simp; rfl)); intro gb102 hg w16 hbox hb; have BK102 := Aside0.mk (hbox); have GW102 := Aside0.mk ((by rw [hg]; exact (below_size (wB0 HB.out)) : w.heap.size ≤ gb102)); have GE102 := Aside0.mk ((by rw [hg]; exact (below_size (wB0 HB.out)) : w.heap.size ≤ gb102)); replace HB := Aside0.mk (below_step (wB0 HB.out) hb); clear hb hbox hg; have hcz17_0 : w16.cell? ⟨gb102, 0, none⟩ = some (.int .i64 0) := (blk_cell BK102.out 0).trans rfl; have hcz17_1 : w16.cell? ⟨gb102, 1, none⟩ = some (.int .i64 0) := (blk_cell BK102.out 1).trans rfl; have hfz17_0 := blk_frozen BK102.out 0; have hfz17_1 := blk_frozen BK102.out 1))
         go_ret
         exact ⟨by first | rfl | (simp [errW_none, errW_some] <;> rfl) | (simp only [← hji10, ← hji14]; first | rfl | (simp [errW_none, errW_some] <;> rfl)) | (simp [*, errW_none, errW_some] <;> rfl), by repeat (first | (with_reducible first | exact HB.out | apply below_alloc | apply pw_below_drewN | apply below_drew1 | refine below_set ?_ GE102.out) | exact HB.out)⟩
        ·rw [if_neg c15] at H
         have c15b0 : decide (a0 ≤ (ji14)) = false := decide_eq_false c15
         clear c15
         have H' := Aside0.mk H
         clear H
         have p101 : 0 ≤ (x20_2 : Int) := oD
         have q101 : x20_2 < (l1.length : Int) := oD
         obtain ⟨ad101, e101, hx101_0, hx101_1⟩ := at_T55 HR1.out x20_2 p101 q101
         cases e101
         (try (replace hx101_0 := hB HB.out hx101_0))
         (try (replace hx101_1 := hB HB.out hx101_1))
         replace p101 := eq_true p101
         replace q101 := eq_true q101
         go_wp2_with (first | ((with_reducible refine gate_dst (N := 6) rfl ?_); (try (refine gate_guard (by rfl) ?_; dsimp only)); refine box_event ?hg (N := 6) ?hd (cs := #[.int .i64 0, .int .i64 0]) (t := 55) ?hr ?_; (case hd => rfl); (case hg => rfl); (case hr => first | (go_simp; done) | (go_simp; rfl)); intro gb102 hg w18 hbox hb; have BK102 := Aside0.mk (hbox); have GW102 := Aside0.mk ((by rw [hg]; exact (below_size (wB0 HB.out)) : w.heap.size ≤ gb102)); have GE102 := Aside0.mk ((by rw [hg]; exact (below_size (wB0 HB.out)) : w.heap.size ≤ gb102)); replace HB := Aside0.mk (below_step (wB0 HB.out) hb); clear hb hbox hg; have hcz19_0 : w18.cell? ⟨gb102, 0, none⟩ = some (.int .i64 0) := (blk_cell BK102.out 0).trans rfl; have hcz19_1 : w18.cell? ⟨gb102, 1, none⟩ = some (.int .i64 0) := (blk_cell BK102.out 1).trans rfl; have hfz19_0 := blk_frozen BK102.out 0; have hfz19_1 := blk_frozen BK102.out 1))
         go_roundg k2
         case measure => have := HJ2.out; have := HK2.out; omega
         case rel => exact ⟨(wrap64 (x20_2 + 1)), rS, H', ⟨by have := HJ2.out; have := HK2.out; omega⟩, ⟨wB1 HB.out GE102.out⟩⟩
      ·rw [if_neg c7] at H
       have c7b0 : decide (x20_2 < (l1.length : Int)) = false := decide_eq_false c7
       clear c7
       obtain rfl := Option.some.inj H
       go_wp2
       go_ret
       exact ⟨eS, by repeat (first | (with_reducible first | exact HB.out | apply below_alloc | apply pw_below_drewN | apply below_drew1) | exact HB.out)⟩
end Go.Proofs.Ytlldjinejckbaaa.PD

end
section
namespace Go.Proofs.Ytlldjinejckbaaa.PD
open Go.RowKit Go.Proofs.YtlldjinejckbaaaW.PrintWords Go.Proofs.YtlldjinejckbaaaW.PrintLast Go.Proofs.YtlldjinejckbaaaW.PrintMore
attribute [local go_sem] max2_int min2_int max_two min_two max_three min_three max_four min_four
set_option linter.unusedVariables false
set_option linter.unusedSimpArgs false
def wireloomref05_Same.l0 : Nat → List Int → List Int → Int → Option (Bool)
 | 0, _, _, _ => none
 | k + 1, x0, x1, x5 => if x5 < (x0.length : Int) then (if 0 ≤ x5 then (if x5 < (x1.length : Int) then (if (rd x0 x5) = (rd x1 x5) then (wireloomref05_Same.l0 k x0 x1 (wrap64 (x5 + 1))) else (some false)) else (none)) else (none)) else (some true)
def wireloomref05_Same.f (k : Nat) (l0 : List Int) (l1 : List Int) : Option (Bool) := if (l0.length : Int) = (l1.length : Int) then (wireloomref05_Same.l0 k l0 l1 0) else (some false)
theorem wireloomref05_Same.mono_l : ∀ k, (∀ y0 y1 y2, LeO (wireloomref05_Same.l0 k y0 y1 y2) (wireloomref05_Same.l0 (k + 1) y0 y1 y2))
 | 0 => fun _ _ _ r h => by simp [wireloomref05_Same.l0] at h
 | k + 1 => by
  have ih0 := wireloomref05_Same.mono_l k
  ·intro y0 y1 y2
   unfold wireloomref05_Same.l0
   repeat' first
   | (with_reducible exact ih0 _ _ _)
   | (with_reducible exact LeO.refl _)
   | (with_reducible exact LeO.none _)
   | (with_reducible refine LeO.ite ?_ ?_)
   | (with_reducible refine LeO.bind ?_ (fun _ => ?_))
   | exact ih0 _ _ _
   | exact LeO.none _
   | refine LeO.ite ?_ ?_
   | refine LeO.bind ?_ (fun _ => ?_)
theorem wireloomref05_Same.mono : ∀ a0 a1 k, LeO (wireloomref05_Same.f k a0 a1) (wireloomref05_Same.f (k + 1) a0 a1) := by
 intro a0 a1 k
 have ih0 := wireloomref05_Same.mono_l k
 unfold wireloomref05_Same.f
 repeat' first
   | (with_reducible exact ih0 _ _ _)
   | (with_reducible exact LeO.refl _)
   | (with_reducible exact LeO.none _)
   | (with_reducible refine LeO.ite ?_ ?_)
   | (with_reducible refine LeO.bind ?_ (fun _ => ?_))
   | exact ih0 _ _ _
   | exact LeO.none _
   | refine LeO.ite ?_ ?_
   | refine LeO.bind ?_ (fun _ => ?_)
set_option maxHeartbeats 8000000 in
set_option maxRecDepth 100000 in
theorem wireloomref05_Same.calls (k : Nat) (A0 : Option Addr) (c0 : Nat) (l0 : List Int) (A1 : Option Addr) (c1 : Nat) (l1 : List Int) (r : Bool) (w : World) (hr0 : Kd.C (Kd.int .i64) w A0 l0.length l0) (hc0 : l0.length ≤ c0) (hr1 : Kd.C (Kd.int .i64) w A1 l1.length l1) (hc1 : l1.length ≤ c1) (h : wireloomref05_Same.f k l0 l1 = some r) :
  Calls Try.prog 23 #[.slice A0 l0.length c0, .slice A1 l1.length c1] w fun e w' => e = .returned (.bool r) ∧ Drawn0 w w' := by
 have HR0 := Aside0.mk hr0
 have HC0 := Aside0.mk hc0
 clear hr0 hc0
 have HR1 := Aside0.mk hr1
 have HC1 := Aside0.mk hc1
 clear hr1 hc1
 have H : (if (l0.length : Int) = (l1.length : Int) then (wireloomref05_Same.l0 k l0 l1 0) else (some false)) = some r := h
 clear h
 by_cases c3 : (l0.length : Int) = (l1.length : Int)
 ·rw [if_pos c3] at H
  have c3b0 : ((l0.length : Int) == (l1.length : Int)) = true := beq_iff_eq.mpr c3
  have c3b1 : ((l0.length : Int) != (l1.length : Int)) = false := bne_eq_false_iff_eq.mpr c3
  have c3b2 : (l0.length == l1.length) = true := by first | simpa using c3 | (simp at c3 ⊢; omega)
  clear c3
  have H' := Aside0.mk H
  clear H
  go_enter Try.func23, Try.ntmps23
  go_wp2
  repeat (go_quiet (fail); try go_wp2)
  go_loopg [5] k (fun kq v5 w' => ∃ (x5_1 : Int), v5 = .int .i64 x5_1 ∧ Aside0 (wireloomref05_Same.l0 kq l0 l1 x5_1 = some r) ∧ Aside0 (kq ≤ k) ∧ Drawn0 w w')
  case atStart => exact ⟨(0), rS, H', ⟨Nat.le_refl _⟩, by repeat (first | exact Drawn0.refl _ | apply Drawn0.step)⟩
  case round =>
   clear H'
   try clear c1; try clear c2; try clear p2; try clear c3; try clear c3b0; try clear c3b1; try clear c3b2
   obtain ⟨x5_1, rfl, HA, HK1, ⟨m1, rfl⟩⟩ := hrel
   cases gk with
   | zero => exact absurd HA.out (by simp [wireloomref05_Same.l0])
   | succ k1 =>
    have H := HA.out
    clear HA
    simp only [wireloomref05_Same.l0] at H
    by_cases c4 : x5_1 < (l0.length : Int)
    ·rw [if_pos c4] at H
     have c4b0 : decide (x5_1 < (l0.length : Int)) = true := decide_eq_true c4
     clear c4
     by_cases c5 : 0 ≤ x5_1
     rotate_left
     ·rw [if_neg c5] at H
      exact absurd H (by simp)
     rw [if_pos c5] at H
     have c5b0 : decide (0 ≤ x5_1) = true := decide_eq_true c5
     clear c5
     by_cases c6 : x5_1 < (l1.length : Int)
     rotate_left
     ·rw [if_neg c6] at H
      exact absurd H (by simp)
     rw [if_pos c6] at H
     have c6b0 : decide (x5_1 < (l1.length : Int)) = true := decide_eq_true c6
     clear c6
     by_cases c7 : (rd l0 x5_1) = (rd l1 x5_1)
     ·rw [if_pos c7] at H
      have c7b0 : ((rd l0 x5_1) == (rd l1 x5_1)) = true := beq_iff_eq.mpr c7
      have c7b1 : ((rd l0 x5_1) != (rd l1 x5_1)) = false := bne_eq_false_iff_eq.mpr c7
      clear c7
      have H' := Aside0.mk H
      clear H
      have p103 : 0 ≤ (x5_1 : Int) := oD
      have q103 : x5_1 < (l0.length : Int) := oD
      obtain ⟨ad103, e103, hx103_0⟩ := Kd.at_int HR0.out x5_1 p103 q103
      cases e103
      replace p103 := eq_true p103
      replace q103 := eq_true q103
      have p104 : 0 ≤ (x5_1 : Int) := oD
      have q104 : x5_1 < (l1.length : Int) := oD
      obtain ⟨ad104, e104, hx104_0⟩ := Kd.at_int HR1.out x5_1 p104 q104
      cases e104
      replace p104 := eq_true p104
      replace q104 := eq_true q104
      go_wp2
      repeat (go_quiet (fail); try go_wp2)
      go_roundg k1
      case measure => have := HK1.out; omega
      case rel => exact ⟨(wrap64 (x5_1 + 1)), rS, H', ⟨by have := HK1.out; omega⟩, by repeat (first | exact Drawn0.refl _ | apply Drawn0.step)⟩
     ·rw [if_neg c7] at H
      have c7b0 : ((rd l0 x5_1) == (rd l1 x5_1)) = false := beq_eq_false_iff_ne.mpr c7
      have c7b1 : ((rd l0 x5_1) != (rd l1 x5_1)) = true := bne_iff_ne.mpr c7
      obtain rfl := Option.some.inj H
      have p103 : 0 ≤ (x5_1 : Int) := oD
      have q103 : x5_1 < (l0.length : Int) := oD
      obtain ⟨ad103, e103, hx103_0⟩ := Kd.at_int HR0.out x5_1 p103 q103
      cases e103
      replace p103 := eq_true p103
      replace q103 := eq_true q103
      have p104 : 0 ≤ (x5_1 : Int) := oD
      have q104 : x5_1 < (l1.length : Int) := oD
      obtain ⟨ad104, e104, hx104_0⟩ := Kd.at_int HR1.out x5_1 p104 q104
      cases e104
      replace p104 := eq_true p104
      replace q104 := eq_true q104
      go_wp2
      repeat (go_quiet (fail); try go_wp2)
      go_ret
      exact ⟨by first | rfl | (simp; done) | (simp [*]; done), by repeat (first | exact Drawn0.refl _ | apply Drawn0.step)⟩
    ·rw [if_neg c4] at H
     have c4b0 : decide (x5_1 < (l0.length : Int)) = false := decide_eq_false c4
     clear c4
     obtain rfl := Option.some.inj H
     go_wp2
     repeat (go_quiet (fail); try go_wp2)
     go_ret
     exact ⟨by first | rfl | (simp; done) | (simp [*]; done), by repeat (first | exact Drawn0.refl _ | apply Drawn0.step)⟩
 ·rw [if_neg c3] at H
  have c3b0 : ((l0.length : Int) == (l1.length : Int)) = false := beq_eq_false_iff_ne.mpr c3
  have c3b1 : ((l0.length : Int) != (l1.length : Int)) = true := bne_iff_ne.mpr c3
  have c3b2 : (l0.length == l1.length) = false := by first | simpa using c3 | (simp at c3 ⊢; omega)
  obtain rfl := Option.some.inj H
  go_enter Try.func23, Try.ntmps23
  go_wp2
  repeat (go_quiet (fail); try go_wp2)
  go_ret
  exact ⟨by first | rfl | (simp; done) | (simp [*]; done), by repeat (first | exact Drawn0.refl _ | apply Drawn0.step)⟩
end Go.Proofs.Ytlldjinejckbaaa.PD

end
section
namespace Go.Proofs.Ytlldjinejckbaaa.PD
open Go.RowKit Go.Proofs.YtlldjinejckbaaaW.PrintWords Go.Proofs.YtlldjinejckbaaaW.PrintLast Go.Proofs.YtlldjinejckbaaaW.PrintMore
attribute [local go_sem] max2_int min2_int max_two min_two max_three min_three max_four min_four
set_option linter.unusedVariables false
set_option linter.unusedSimpArgs false
def wireloomref05_Alike.f (k : Nat) (l0_0 : List Int) (a0_1 : Int) (l1_0 : List Int) (a1_1 : Int) : Option (Bool) := if a0_1 = a1_1 then ((wireloomref05_Same.f k l0_0 l1_0).bind fun t107 => (some t107)) else (some false)
theorem wireloomref05_Alike.mono : ∀ a0 a1 a2 a3 k, LeO (wireloomref05_Alike.f k a0 a1 a2 a3) (wireloomref05_Alike.f (k + 1) a0 a1 a2 a3) := by
 intro a0 a1 a2 a3 k
 unfold wireloomref05_Alike.f
 repeat' first
   | (with_reducible exact wireloomref05_Same.mono _ _ _)
   | (with_reducible exact LeO.refl _)
   | (with_reducible exact LeO.none _)
   | (with_reducible refine LeO.ite ?_ ?_)
   | (with_reducible refine LeO.bind ?_ (fun _ => ?_))
   | exact wireloomref05_Same.mono _ _ _
   | exact LeO.none _
   | refine LeO.ite ?_ ?_
   | refine LeO.bind ?_ (fun _ => ?_)
set_option maxHeartbeats 8000000 in
set_option maxRecDepth 100000 in
theorem wireloomref05_Alike.calls (k : Nat) (A0_0 : Option Addr) (c0_0 : Nat) (l0_0 : List Int) (a0_1 : Int) (A1_0 : Option Addr) (c1_0 : Nat) (l1_0 : List Int) (a1_1 : Int) (r : Bool) (w : World) (hr0_0 : Kd.C (Kd.int .i64) w A0_0 l0_0.length l0_0) (hc0_0 : l0_0.length ≤ c0_0) (hr1_0 : Kd.C (Kd.int .i64) w A1_0 l1_0.length l1_0) (hc1_0 : l1_0.length ≤ c1_0) (h : wireloomref05_Alike.f k l0_0 a0_1 l1_0 a1_1 = some r) :
  Calls Try.prog 14 #[.agg #[.slice A0_0 l0_0.length c0_0, .int .i64 a0_1], .agg #[.slice A1_0 l1_0.length c1_0, .int .i64 a1_1]] w fun e w' => e = .returned (.bool r) ∧ Below w.heap.size w w' := by
 have hu37 := Try.underlying37
 have HR0_0 := Aside0.mk hr0_0
 have HC0_0 := Aside0.mk hc0_0
 clear hr0_0 hc0_0
 have HR1_0 := Aside0.mk hr1_0
 have HC1_0 := Aside0.mk hc1_0
 clear hr1_0 hc1_0
 have HB := Aside0.mk (Below.refl w.heap.size w)
 have H : (if a0_1 = a1_1 then ((wireloomref05_Same.f k l0_0 l1_0).bind fun t107 => (some t107)) else (some false)) = some r := h
 clear h
 by_cases c3 : a0_1 = a1_1
 ·rw [if_pos c3] at H
  have c3b0 : (a0_1 == a1_1) = true := beq_iff_eq.mpr c3
  have c3b1 : (a0_1 != a1_1) = false := bne_eq_false_iff_eq.mpr c3
  clear c3
  replace H := Option.bind_eq_some_iff.mp H
  obtain ⟨t107, A40, H⟩ := H
  replace H : (some t107) = some r := H
  have A4 := Aside0.mk A40
  clear A40
  obtain rfl := Option.some.inj H
  go_enter Try.func14, Try.ntmps14
  go_wp2_with (first | ((with_reducible refine gate_dst (N := 2) rfl ?_); refine box_event ?hg (N := 2) ?hd (cs := #[.slice A0_0 l0_0.length c0_0, .int .i64 a0_1]) (t := 37) ?hr ?_; (case hd => rfl); (case hg => rfl); (case hr => first | (go_simp; done) | (go_simp; rfl)); intro gb105 hg w5 hbox hb; have BK105 := Aside0.mk (hbox); have GW105 := Aside0.mk ((by rw [hg]; exact (below_size (wB0 HB.out)) : w.heap.size ≤ gb105)); have GE105 := Aside0.mk ((by rw [hg]; exact (below_size (wB0 HB.out)) : w.heap.size ≤ gb105)); replace HB := Aside0.mk (below_step (wB0 HB.out) hb); clear hb hbox hg) | ((with_reducible refine gate_dst (N := 3) rfl ?_); refine box_event ?hg (N := 3) ?hd (cs := #[.slice A1_0 l1_0.length c1_0, .int .i64 a1_1]) (t := 37) ?hr ?_; (case hd => rfl); (case hg => rfl); (case hr => first | (go_simp; done) | (go_simp; rfl)); intro gb106 hg w6 hbox hb; have BK106 := Aside0.mk (hbox); have GW106 := Aside0.mk ((by rw [hg]; exact (below_size (wB1 HB.out GE105.out)) : w.heap.size ≤ gb106)); have GE106 := Aside0.mk ((by rw [hg]; exact (below_size (wB1 HB.out GE105.out)) : w.heap.size ≤ gb106)); replace HB := Aside0.mk (below_step (wB1 HB.out GE105.out) hb); have NB105_106 := Aside0.mk ((by rw [hg]; exact Nat.ne_of_lt (blk_lt (g := gb105) (o := .cells #[.slice A0_0 l0_0.length c0_0, .int .i64 a0_1] 37 (0, 0)) (bA BK105.out)) : gb105 ≠ gb106)); have NB106_105 := Aside0.mk ((by rw [hg]; exact Nat.ne_of_gt (blk_lt (g := gb105) (o := .cells #[.slice A0_0 l0_0.length c0_0, .int .i64 a0_1] 37 (0, 0)) (bA BK105.out)) : gb106 ≠ gb105)); replace BK105 := kC BK105 hb; clear hb hbox hg; have hnb7 := NB105_106.out; have hnc7 := NB106_105.out; have hcz8_0 : w6.cell? ⟨gb105, 0, none⟩ = some (.slice A0_0 l0_0.length c0_0) := (blk_cell BK105.out 0).trans rfl; have hcz8_1 : w6.cell? ⟨gb105, 1, none⟩ = some (.int .i64 a0_1) := (blk_cell BK105.out 1).trans rfl; have hfz8_0 := blk_frozen BK105.out 0; have hfz8_1 := blk_frozen BK105.out 1; have hcz9_0 : w6.cell? ⟨gb106, 0, none⟩ = some (.slice A1_0 l1_0.length c1_0) := (blk_cell BK106.out 0).trans rfl; have hcz9_1 : w6.cell? ⟨gb106, 1, none⟩ = some (.int .i64 a1_1) := (blk_cell BK106.out 1).trans rfl; have hfz9_0 := blk_frozen BK106.out 0; have hfz9_1 := blk_frozen BK106.out 1) | (go_at_call 23; (with_reducible refine (wireloomref05_Same.calls k _ _ l0_0 _ _ l1_0 t107 _ ?side1 ?side2 ?side3 ?side4 A4.out).mono ?_); (case side1 => exact cA (Kd.C_below HR0_0.out HB.out)); (case side2 => exact HC0_0.out); (case side3 => exact cA (Kd.C_below HR1_0.out HB.out)); (case side4 => exact HC1_0.out); rintro e w' ⟨rfl, ⟨nd, rfl⟩⟩))
  go_ret
  exact ⟨eS, by repeat (first | (with_reducible first | exact HB.out | apply below_alloc | apply pw_below_drewN | apply below_drew1 | refine below_set ?_ GE105.out | refine below_set ?_ GE106.out) | exact HB.out)⟩
 ·rw [if_neg c3] at H
  have c3b0 : (a0_1 == a1_1) = false := beq_eq_false_iff_ne.mpr c3
  have c3b1 : (a0_1 != a1_1) = true := bne_iff_ne.mpr c3
  obtain rfl := Option.some.inj H
  go_enter Try.func14, Try.ntmps14
  go_wp2_with (first | ((with_reducible refine gate_dst (N := 2) rfl ?_); refine box_event ?hg (N := 2) ?hd (cs := #[.slice A0_0 l0_0.length c0_0, .int .i64 a0_1]) (t := 37) ?hr ?_; (case hd => rfl); (case hg => rfl); (case hr => first | (go_simp; done) | (go_simp; rfl)); intro gb105 hg w10 hbox hb; have BK105 := Aside0.mk (hbox); have GW105 := Aside0.mk ((by rw [hg]; exact (below_size (wB0 HB.out)) : w.heap.size ≤ gb105)); have GE105 := Aside0.mk ((by rw [hg]; exact (below_size (wB0 HB.out)) : w.heap.size ≤ gb105)); replace HB := Aside0.mk (below_step (wB0 HB.out) hb); clear hb hbox hg) | ((with_reducible refine gate_dst (N := 3) rfl ?_); refine box_event ?hg (N := 3) ?hd (cs := #[.slice A1_0 l1_0.length c1_0, .int .i64 a1_1]) (t := 37) ?hr ?_; (case hd => rfl); (case hg => rfl); (case hr => first | (go_simp; done) | (go_simp; rfl)); intro gb106 hg w11 hbox hb; have BK106 := Aside0.mk (hbox); have GW106 := Aside0.mk ((by rw [hg]; exact (below_size (wB1 HB.out GE105.out)) : w.heap.size ≤ gb106)); have GE106 := Aside0.mk ((by rw [hg]; exact (below_size (wB1 HB.out GE105.out)) : w.heap.size ≤ gb106)); replace HB := Aside0.mk (below_step (wB1 HB.out GE105.out) hb); have NB105_106 := Aside0.mk ((by rw [hg]; exact Nat.ne_of_lt (blk_lt (g := gb105) (o := .cells #[.slice A0_0 l0_0.length c0_0, .int .i64 a0_1] 37 (0, 0)) (bA BK105.out)) : gb105 ≠ gb106)); have NB106_105 := Aside0.mk ((by rw [hg]; exact Nat.ne_of_gt (blk_lt (g := gb105) (o := .cells #[.slice A0_0 l0_0.length c0_0, .int .i64 a0_1] 37 (0, 0)) (bA BK105.out)) : gb106 ≠ gb105)); replace BK105 := kC BK105 hb; clear hb hbox hg; have hnb12 := NB105_106.out; have hnc12 := NB106_105.out; have hcz13_0 : w11.cell? ⟨gb105, 0, none⟩ = some (.slice A0_0 l0_0.length c0_0) := (blk_cell BK105.out 0).trans rfl; have hcz13_1 : w11.cell? ⟨gb105, 1, none⟩ = some (.int .i64 a0_1) := (blk_cell BK105.out 1).trans rfl; have hfz13_0 := blk_frozen BK105.out 0; have hfz13_1 := blk_frozen BK105.out 1; have hcz14_0 : w11.cell? ⟨gb106, 0, none⟩ = some (.slice A1_0 l1_0.length c1_0) := (blk_cell BK106.out 0).trans rfl; have hcz14_1 : w11.cell? ⟨gb106, 1, none⟩ = some (.int .i64 a1_1) := (blk_cell BK106.out 1).trans rfl; have hfz14_0 := blk_frozen BK106.out 0; have hfz14_1 := blk_frozen BK106.out 1))
  go_ret
  exact ⟨eS, by repeat (first | (with_reducible first | exact HB.out | apply below_alloc | apply pw_below_drewN | apply below_drew1 | refine below_set ?_ GE105.out | refine below_set ?_ GE106.out) | exact HB.out)⟩
end Go.Proofs.Ytlldjinejckbaaa.PD

end
section
namespace Go.Proofs.Ytlldjinejckbaaa.PD
open Go.RowKit Go.Proofs.YtlldjinejckbaaaW.PrintWords Go.Proofs.YtlldjinejckbaaaW.PrintLast Go.Proofs.YtlldjinejckbaaaW.PrintMore
attribute [local go_sem] max2_int min2_int max_two min_two max_three min_three max_four min_four
set_option linter.unusedVariables false
set_option linter.unusedSimpArgs false
def digraph_Depth.f (a0 : Int) (l1 : List (S55)) : Option (List Int × Int) := if 0 ≤ a0 ∧ a0 ≤ 1000 ∧ l1.length ≤ 10000 ∧ ∀ e ∈ l1, 0 ≤ e.f0 ∧ e.f0 < a0 ∧ 0 ≤ e.f1 ∧ e.f1 < a0 then Dp.depthOf a0.toNat l1 else none
theorem digraph_Depth.calls (a0 : Int) (A1 : Option Addr) (c1 : Nat) (l1 : List (S55)) (r1 : List Int) (r2 : Int) (w : World) (hr1 : Kd.C k55 w A1 l1.length l1) (hc1 : l1.length ≤ c1) (h : digraph_Depth.f a0 l1 = some (r1, r2)) :
  Calls Try.prog 40 #[.int .i64 a0, .slice A1 l1.length c1] w fun e w' => ∃ v0_ : Value, e = .returned (.tuple #[v0_, .int .i64 r2]) ∧ Kd.R (Kd.int .i64) 3 w' w.heap.size (fun _ => True) v0_ r1 ∧ Below w.heap.size w w' := by
 unfold digraph_Depth.f at h
 split at h
 ·rename_i hp
  obtain ⟨n, rfl⟩ := Int.eq_ofNat_of_zero_le hp.1
  rw [Int.toNat_natCast] at h
  exact Dp.Depth_calls n (by omega) A1 c1 l1 r1 r2 w hr1 hc1 hp.2.2.1 hp.2.2.2 h
 ·cases h
end Go.Proofs.Ytlldjinejckbaaa.PD

end
section
namespace Go.Proofs.Ytlldjinejckbaaa.PD
open Go.RowKit Go.Proofs.YtlldjinejckbaaaW.PrintWords Go.Proofs.YtlldjinejckbaaaW.PrintLast Go.Proofs.YtlldjinejckbaaaW.PrintMore
attribute [local go_sem] max2_int min2_int max_two min_two max_three min_three max_four min_four
set_option linter.unusedVariables false
set_option linter.unusedSimpArgs false
def wireloomlaw05_depth.f (a0_0 : Int) (l0_1 : List (S55)) : Option (List Int × Int) := (digraph_Depth.f a0_0 l0_1).bind fun bt131 => (some (bt131.1, bt131.2))
set_option maxHeartbeats 8000000 in
set_option maxRecDepth 100000 in
theorem wireloomlaw05_depth.calls (a0_0 : Int) (A0_1 : Option Addr) (c0_1 : Nat) (l0_1 : List (S55)) (r1 : List Int) (r2 : Int) (w : World) (hr0_1 : Kd.C k55 w A0_1 l0_1.length l0_1) (hc0_1 : l0_1.length ≤ c0_1) (h : wireloomlaw05_depth.f a0_0 l0_1 = some (r1, r2)) :
  Calls Try.prog 19 #[.agg #[.int .i64 a0_0, .slice A0_1 l0_1.length c0_1]] w fun e w' => ∃ v0_ : Value, e = .returned (.agg #[v0_, .int .i64 r2]) ∧ Kd.R (Kd.int .i64) 3 w' w.heap.size (fun _ => True) v0_ r1 ∧ Below w.heap.size w w' := by
 have hu31 := Try.underlying31
 have hu37 := Try.underlying37
 have HR0_1 := Aside0.mk hr0_1
 have HC0_1 := Aside0.mk hc0_1
 clear hr0_1 hc0_1
 have HB := Aside0.mk (Below.refl w.heap.size w)
 have H : ((digraph_Depth.f a0_0 l0_1).bind fun bt131 => (some (bt131.1, bt131.2))) = some (r1, r2) := h
 clear h
 replace H := Option.bind_eq_some_iff.mp H
 obtain ⟨⟨t131, t132⟩, A20, H⟩ := H
 replace H : (some (t131, t132)) = some (r1, r2) := H
 have A2 := Aside0.mk A20
 clear A20
 simp only [Option.some.injEq, Prod.mk.injEq] at H
 obtain ⟨rfl, rfl⟩ := H
 go_enter Try.func19, Try.ntmps19
 go_wp2_with (first | ((with_reducible refine gate_dst (N := 1) rfl ?_); refine box_event ?hg (N := 1) ?hd (cs := #[.int .i64 a0_0, .slice A0_1 l0_1.length c0_1]) (t := 31) ?hr ?_; (case hd => rfl); (case hg => rfl); (case hr => first | (go_simp; done) | (go_simp; rfl)); intro gb129 hg w3 hbox hb; have BK129 := Aside0.mk (hbox); have GW129 := Aside0.mk ((by rw [hg]; exact (below_size (wB0 HB.out)) : w.heap.size ≤ gb129)); have GE129 := Aside0.mk ((by rw [hg]; exact (below_size (wB0 HB.out)) : w.heap.size ≤ gb129)); replace HB := Aside0.mk (below_step (wB0 HB.out) hb); clear hb hbox hg) | ((with_reducible refine gate_dst (N := 2) rfl ?_); refine box_event ?hg (N := 2) ?hd (cs := #[.slice none 0 0, .int .i64 0]) (t := 37) ?hr ?_; (case hd => rfl); (case hg => rfl); (case hr => first | (go_simp; done) | (go_simp; rfl)); intro gb130 hg w4 hbox hb; have BK130 := Aside0.mk (hbox); have GW130 := Aside0.mk ((by rw [hg]; exact (below_size (wB1 HB.out GE129.out)) : w.heap.size ≤ gb130)); have GE130 := Aside0.mk ((by rw [hg]; exact (below_size (wB1 HB.out GE129.out)) : w.heap.size ≤ gb130)); replace HB := Aside0.mk (below_step (wB1 HB.out GE129.out) hb); have NB129_130 := Aside0.mk ((by rw [hg]; exact Nat.ne_of_lt (blk_lt (g := gb129) (o := .cells #[.int .i64 a0_0, .slice A0_1 l0_1.length c0_1] 31 (0, 0)) (bA BK129.out)) : gb129 ≠ gb130)); have NB130_129 := Aside0.mk ((by rw [hg]; exact Nat.ne_of_gt (blk_lt (g := gb129) (o := .cells #[.int .i64 a0_0, .slice A0_1 l0_1.length c0_1] 31 (0, 0)) (bA BK129.out)) : gb130 ≠ gb129)); replace BK129 := kC BK129 hb; clear hb hbox hg; have hnb5 := NB129_130.out; have hnc5 := NB130_129.out; have hcz6_0 : w4.cell? ⟨gb129, 0, none⟩ = some (.int .i64 a0_0) := (blk_cell BK129.out 0).trans rfl; have hcz6_1 : w4.cell? ⟨gb129, 1, none⟩ = some (.slice A0_1 l0_1.length c0_1) := (blk_cell BK129.out 1).trans rfl; have hfz6_0 := blk_frozen BK129.out 0; have hfz6_1 := blk_frozen BK129.out 1) | ((with_reducible refine gate_callee (f := 40) rfl ?_); refine goesL_ (some 10) rfl rfl Try.func40 (by kernel_rfl) rfl #[.int .i64 a0_0, .slice A0_1 l0_1.length c0_1] rfl (by (try simp only [List.map_toArray, List.map_cons, List.map_nil]); first | done | rfl | (simp only [List.length_drop, List.length_take]; rfl)) ?_; (with_reducible refine (digraph_Depth.calls a0_0 _ _ l0_1 t131 t132 _ ?side1 ?side2 A2.out).mono ?_); (case side1 => exact cA (Kd.C_below HR0_1.out HB.out)); (case side2 => exact HC0_1.out); rintro e w7 ⟨v133, rfl, ho0, hb⟩; refine ⟨_, rfl, ?_⟩; have HO134 := Aside0.mk (Kd.R_lower ho0 (below_size (wB2 HB.out GE129.out GE130.out))); replace BK129 := kC BK129 hb; replace BK130 := kC BK130 hb; replace HB := Aside0.mk (below_step (wB2 HB.out GE129.out GE130.out) hb); (try clear hb); (try clear hb2); (try clear hk); (try clear hi); (try clear ho0); obtain ⟨Ao8, co8, eo8⟩ := Kd.R_slice HO134.out; subst eo8; have hcz9_0 : w7.cell? ⟨gb130, 0, none⟩ = some (.slice none 0 0) := (blk_cell BK130.out 0).trans rfl; have hcz9_1 : w7.cell? ⟨gb130, 1, none⟩ = some (.int .i64 0) := (blk_cell BK130.out 1).trans rfl; have hfz9_0 := blk_frozen BK130.out 0; have hfz9_1 := blk_frozen BK130.out 1))
 refine bodyPost_ret (results_cell_row rfl _ _ gb130 37 #[.slice Ao8 t131.length co8, .int .i64 t132] (0, 0) _ rfl (by (with_reducible repeat (first | refine blk_drewN ?_ _ | refine blk_drew ?_ | refine blk_alloc ?_ _)); refine blk_put (cs := #[.slice Ao8 t131.length co8, .int .i64 0]) ?_ 1 _ rfl; (with_reducible repeat (first | refine blk_drewN ?_ _ | refine blk_drew ?_ | refine blk_alloc ?_ _)); refine blk_put (cs := #[.slice none 0 0, .int .i64 0]) ?_ 0 _ rfl; (with_reducible repeat (first | refine blk_drewN ?_ _ | refine blk_drew ?_ | refine blk_alloc ?_ _)); exact BK130.out) Try.underlying37 rfl (by kernel_rfl)) rfl ?_
 exact ⟨_, eS, by (with_reducible repeat (first | apply Kd.R_alloc | apply Kd.R_drewN | apply Kd.R_drew)); exact Kd.R_mono (Kd.R_far (p := ⟨gb130, 1, none⟩) (Kd.R_far (p := ⟨gb130, 0, none⟩) (Kd.R_types HO134.out BK130.out (by decide)) (fun _ hk => hk.2) (.slice Ao8 t131.length co8)) (fun _ hk => hk.2) (.int .i64 t132)) (fun _ hk => trivial), by repeat (first | (with_reducible first | exact HB.out | apply below_alloc | apply pw_below_drewN | apply below_drew1 | refine below_set ?_ GE129.out | refine below_set ?_ GE130.out) | exact HB.out)⟩
end Go.Proofs.Ytlldjinejckbaaa.PD

end
section
namespace Go.Proofs.Ytlldjinejckbaaa.PD
open Go.RowKit Go.Proofs.YtlldjinejckbaaaW.PrintWords Go.Proofs.YtlldjinejckbaaaW.PrintLast Go.Proofs.YtlldjinejckbaaaW.PrintMore
attribute [local go_sem] max2_int min2_int max_two min_two max_three min_three max_four min_four
set_option linter.unusedVariables false
set_option linter.unusedSimpArgs false
def digraph_Reach.f (a0 : Int) (l1 : List (S55)) (a2 : Int) : Option (List Int) := if 0 ≤ a0 ∧ a0 ≤ 1000 ∧ l1.length ≤ 10000 ∧ ∀ e ∈ l1, 0 ≤ e.f0 ∧ e.f0 < a0 ∧ 0 ≤ e.f1 ∧ e.f1 < a0 then some (Rc.reachOf a0.toNat l1 a2) else none
theorem digraph_Reach.calls (a0 : Int) (A1 : Option Addr) (c1 : Nat) (l1 : List (S55)) (a2 : Int) (r : List Int) (w : World) (hr1 : Kd.C k55 w A1 l1.length l1) (hc1 : l1.length ≤ c1) (h : digraph_Reach.f a0 l1 a2 = some r) :
  Calls Try.prog 24 #[.int .i64 a0, .slice A1 l1.length c1, .int .i64 a2] w fun e w' => ∃ v0_ : Value, e = .returned (v0_) ∧ Kd.R (Kd.int .i64) 3 w' w.heap.size (fun _ => True) v0_ r ∧ Below w.heap.size w w' := by
 unfold digraph_Reach.f at h
 split at h
 ·rename_i hp
  obtain ⟨n, rfl⟩ := Int.eq_ofNat_of_zero_le hp.1
  rw [Int.toNat_natCast] at h
  rw [← Option.some.inj h]
  exact Rc.Reach_calls n (by omega) A1 c1 l1 a2 w hr1 hc1 hp.2.2.1 hp.2.2.2
 ·cases h
end Go.Proofs.Ytlldjinejckbaaa.PD

end
section
namespace Go.Proofs.Ytlldjinejckbaaa.PD
open Go.RowKit Go.Proofs.YtlldjinejckbaaaW.PrintWords Go.Proofs.YtlldjinejckbaaaW.PrintLast Go.Proofs.YtlldjinejckbaaaW.PrintMore
attribute [local go_sem] max2_int min2_int max_two min_two max_three min_three max_four min_four
set_option linter.unusedVariables false
set_option linter.unusedSimpArgs false
def wireloomref05_SameLists.l0 : Nat → List (List Int) → List (List Int) → Int → Option (Bool)
 | 0, _, _, _ => none
 | k + 1, x0, x1, x5 => if x5 < (x0.length : Int) then (if 0 ≤ x5 then (if x5 < (x1.length : Int) then ((wireloomref05_Same.f k (rd_L2 x0 x5) (rd_L2 x1 x5)).bind fun t143 => (if t143 = true then (wireloomref05_SameLists.l0 k x0 x1 (wrap64 (x5 + 1))) else (some false))) else (none)) else (none)) else (some true)
def wireloomref05_SameLists.f (k : Nat) (l0 : List (List Int)) (l1 : List (List Int)) : Option (Bool) := if (l0.length : Int) = (l1.length : Int) then (wireloomref05_SameLists.l0 k l0 l1 0) else (some false)
theorem wireloomref05_SameLists.mono_l : ∀ k, (∀ y0 y1 y2, LeO (wireloomref05_SameLists.l0 k y0 y1 y2) (wireloomref05_SameLists.l0 (k + 1) y0 y1 y2))
 | 0 => fun _ _ _ r h => by simp [wireloomref05_SameLists.l0] at h
 | k + 1 => by
  have ih0 := wireloomref05_SameLists.mono_l k
  ·intro y0 y1 y2
   unfold wireloomref05_SameLists.l0
   repeat' first
   | (with_reducible exact ih0 _ _ _)
   | (with_reducible exact wireloomref05_Same.mono _ _ _)
   | (with_reducible exact LeO.refl _)
   | (with_reducible exact LeO.none _)
   | (with_reducible refine LeO.ite ?_ ?_)
   | (with_reducible refine LeO.bind ?_ (fun _ => ?_))
   | exact ih0 _ _ _
   | exact wireloomref05_Same.mono _ _ _
   | exact LeO.none _
   | refine LeO.ite ?_ ?_
   | refine LeO.bind ?_ (fun _ => ?_)
theorem wireloomref05_SameLists.mono : ∀ a0 a1 k, LeO (wireloomref05_SameLists.f k a0 a1) (wireloomref05_SameLists.f (k + 1) a0 a1) := by
 intro a0 a1 k
 have ih0 := wireloomref05_SameLists.mono_l k
 unfold wireloomref05_SameLists.f
 repeat' first
   | (with_reducible exact ih0 _ _ _)
   | (with_reducible exact wireloomref05_Same.mono _ _ _)
   | (with_reducible exact LeO.refl _)
   | (with_reducible exact LeO.none _)
   | (with_reducible refine LeO.ite ?_ ?_)
   | (with_reducible refine LeO.bind ?_ (fun _ => ?_))
   | exact ih0 _ _ _
   | exact wireloomref05_Same.mono _ _ _
   | exact LeO.none _
   | refine LeO.ite ?_ ?_
   | refine LeO.bind ?_ (fun _ => ?_)
set_option maxHeartbeats 8000000 in
set_option maxRecDepth 100000 in
theorem wireloomref05_SameLists.calls (k : Nat) (A0 : Option Addr) (c0 : Nat) (l0 : List (List Int)) (A1 : Option Addr) (c1 : Nat) (l1 : List (List Int)) (r : Bool) (w : World) (hr0 : Kd.C (Kd.slice 3 (Kd.int .i64)) w A0 l0.length l0) (hc0 : l0.length ≤ c0) (hr1 : Kd.C (Kd.slice 3 (Kd.int .i64)) w A1 l1.length l1) (hc1 : l1.length ≤ c1) (h : wireloomref05_SameLists.f k l0 l1 = some r) :
  Calls Try.prog 26 #[.slice A0 l0.length c0, .slice A1 l1.length c1] w fun e w' => e = .returned (.bool r) ∧ Drawn0 w w' := by
 have HR0 := Aside0.mk hr0
 have HC0 := Aside0.mk hc0
 clear hr0 hc0
 have HR1 := Aside0.mk hr1
 have HC1 := Aside0.mk hc1
 clear hr1 hc1
 have H : (if (l0.length : Int) = (l1.length : Int) then (wireloomref05_SameLists.l0 k l0 l1 0) else (some false)) = some r := h
 clear h
 by_cases c3 : (l0.length : Int) = (l1.length : Int)
 ·rw [if_pos c3] at H
  have c3b0 : ((l0.length : Int) == (l1.length : Int)) = true := beq_iff_eq.mpr c3
  have c3b1 : ((l0.length : Int) != (l1.length : Int)) = false := bne_eq_false_iff_eq.mpr c3
  have c3b2 : (l0.length == l1.length) = true := by first | simpa using c3 | (simp at c3 ⊢; omega)
  clear c3
  have H' := Aside0.mk H
  clear H
  go_enter Try.func26, Try.ntmps26
  go_wp2
  repeat (go_quiet (fail); try go_wp2)
  go_loopg [5] k (fun kq v5 w' => ∃ (x5_1 : Int), v5 = .int .i64 x5_1 ∧ Aside0 (wireloomref05_SameLists.l0 kq l0 l1 x5_1 = some r) ∧ Aside0 (kq ≤ k) ∧ Drawn0 w w')
  case atStart => exact ⟨(0), rS, H', ⟨Nat.le_refl _⟩, by repeat (first | exact Drawn0.refl _ | apply Drawn0.step)⟩
  case round =>
   clear H'
   try clear c1; try clear c2; try clear p2; try clear c3; try clear c3b0; try clear c3b1; try clear c3b2
   obtain ⟨x5_1, rfl, HA, HK1, ⟨m1, rfl⟩⟩ := hrel
   cases gk with
   | zero => exact absurd HA.out (by simp [wireloomref05_SameLists.l0])
   | succ k1 =>
    have H := HA.out
    clear HA
    simp only [wireloomref05_SameLists.l0] at H
    by_cases c4 : x5_1 < (l0.length : Int)
    ·rw [if_pos c4] at H
     have c4b0 : decide (x5_1 < (l0.length : Int)) = true := decide_eq_true c4
     clear c4
     by_cases c5 : 0 ≤ x5_1
     rotate_left
     ·rw [if_neg c5] at H
      exact absurd H (by simp)
     rw [if_pos c5] at H
     have c5b0 : decide (0 ≤ x5_1) = true := decide_eq_true c5
     clear c5
     by_cases c6 : x5_1 < (l1.length : Int)
     rotate_left
     ·rw [if_neg c6] at H
      exact absurd H (by simp)
     rw [if_pos c6] at H
     have c6b0 : decide (x5_1 < (l1.length : Int)) = true := decide_eq_true c6
     clear c6
     replace H := Option.bind_eq_some_iff.mp H
     obtain ⟨t143, A70, H⟩ := H
     replace H : (if t143 = true then (wireloomref05_SameLists.l0 k1 l0 l1 (wrap64 (x5_1 + 1))) else (some false)) = some r := H
     have A7 := Aside0.mk A70
     clear A70
     by_cases c8 : t143 = true
     ·subst c8
      have H1 : (wireloomref05_SameLists.l0 k1 l0 l1 (wrap64 (x5_1 + 1))) = some r := by rw [if_pos rfl] at H; exact H
      clear H
      have H := H1
      clear H1
      have H' := Aside0.mk H
      clear H
      have p141 : 0 ≤ (x5_1 : Int) := oD
      have q141 : x5_1 < (l0.length : Int) := oD
      obtain ⟨ad141, A141_0, c141_0, e141, hx141_0, hl141_0, hi141_0⟩ := at_L2 HR0.out x5_1 p141 q141
      cases e141
      have HR141_0 := Aside0.mk hi141_0
      have HC141_0 := Aside0.mk hl141_0
      clear hi141_0 hl141_0
      replace p141 := eq_true p141
      replace q141 := eq_true q141
      have p142 : 0 ≤ (x5_1 : Int) := oD
      have q142 : x5_1 < (l1.length : Int) := oD
      obtain ⟨ad142, A142_0, c142_0, e142, hx142_0, hl142_0, hi142_0⟩ := at_L2 HR1.out x5_1 p142 q142
      cases e142
      have HR142_0 := Aside0.mk hi142_0
      have HC142_0 := Aside0.mk hl142_0
      clear hi142_0 hl142_0
      replace p142 := eq_true p142
      replace q142 := eq_true q142
      go_wp2_with (first | (go_at_call 23; (with_reducible refine (wireloomref05_Same.calls k1 _ _ (rd_L2 l0 x5_1) _ _ (rd_L2 l1 x5_1) true _ ?side1 ?side2 ?side3 ?side4 A7.out).mono ?_); (case side1 => exact cA HR141_0.out); (case side2 => exact HC141_0.out); (case side3 => exact cA HR142_0.out); (case side4 => exact HC142_0.out); rintro e w' ⟨rfl, ⟨nd, rfl⟩⟩; (try first | exact ⟨rfl, _, World.drewN_drewN _ _ _⟩ | exact ⟨rfl, _, Eq.trans (World.drewN_drewN _ _ _) (congrArg (World.drewN _) (Nat.add_assoc _ _ _))⟩)))
      repeat (go_quiet (first | (go_at_call 23; (with_reducible refine (wireloomref05_Same.calls k1 _ _ (rd_L2 l0 x5_1) _ _ (rd_L2 l1 x5_1) true _ ?side1 ?side2 ?side3 ?side4 A7.out).mono ?_); (case side1 => exact cA HR141_0.out); (case side2 => exact HC141_0.out); (case side3 => exact cA HR142_0.out); (case side4 => exact HC142_0.out); rintro e w' ⟨rfl, ⟨nd, rfl⟩⟩; (try first | exact ⟨rfl, _, World.drewN_drewN _ _ _⟩ | exact ⟨rfl, _, Eq.trans (World.drewN_drewN _ _ _) (congrArg (World.drewN _) (Nat.add_assoc _ _ _))⟩))); try go_wp2_with (first | (go_at_call 23; (with_reducible refine (wireloomref05_Same.calls k1 _ _ (rd_L2 l0 x5_1) _ _ (rd_L2 l1 x5_1) true _ ?side1 ?side2 ?side3 ?side4 A7.out).mono ?_); (case side1 => exact cA HR141_0.out); (case side2 => exact HC141_0.out); (case side3 => exact cA HR142_0.out); (case side4 => exact HC142_0.out); rintro e w' ⟨rfl, ⟨nd, rfl⟩⟩; (try first | exact ⟨rfl, _, World.drewN_drewN _ _ _⟩ | exact ⟨rfl, _, Eq.trans (World.drewN_drewN _ _ _) (congrArg (World.drewN _) (Nat.add_assoc _ _ _))⟩))))
      go_roundg k1
      case measure => have := HK1.out; omega
      case rel => exact ⟨(wrap64 (x5_1 + 1)), rS, H', ⟨by have := HK1.out; omega⟩, by repeat (first | exact Drawn0.refl _ | apply Drawn0.step)⟩
     ·replace c8 := Bool.eq_false_iff.mpr c8
      subst c8
      have H1 : (some false) = some r := by rw [if_neg (show ¬ (false = true) by decide)] at H; exact H
      clear H
      have H := H1
      clear H1
      obtain rfl := Option.some.inj H
      have p141 : 0 ≤ (x5_1 : Int) := oD
      have q141 : x5_1 < (l0.length : Int) := oD
      obtain ⟨ad141, A141_0, c141_0, e141, hx141_0, hl141_0, hi141_0⟩ := at_L2 HR0.out x5_1 p141 q141
      cases e141
      have HR141_0 := Aside0.mk hi141_0
      have HC141_0 := Aside0.mk hl141_0
      clear hi141_0 hl141_0
      replace p141 := eq_true p141
      replace q141 := eq_true q141
      have p142 : 0 ≤ (x5_1 : Int) := oD
      have q142 : x5_1 < (l1.length : Int) := oD
      obtain ⟨ad142, A142_0, c142_0, e142, hx142_0, hl142_0, hi142_0⟩ := at_L2 HR1.out x5_1 p142 q142
      cases e142
      have HR142_0 := Aside0.mk hi142_0
      have HC142_0 := Aside0.mk hl142_0
      clear hi142_0 hl142_0
      replace p142 := eq_true p142
      replace q142 := eq_true q142
      go_wp2_with (first | (go_at_call 23; (with_reducible refine (wireloomref05_Same.calls k1 _ _ (rd_L2 l0 x5_1) _ _ (rd_L2 l1 x5_1) false _ ?side1 ?side2 ?side3 ?side4 A7.out).mono ?_); (case side1 => exact cA HR141_0.out); (case side2 => exact HC141_0.out); (case side3 => exact cA HR142_0.out); (case side4 => exact HC142_0.out); rintro e w' ⟨rfl, ⟨nd, rfl⟩⟩; (try first | exact ⟨rfl, _, World.drewN_drewN _ _ _⟩ | exact ⟨rfl, _, Eq.trans (World.drewN_drewN _ _ _) (congrArg (World.drewN _) (Nat.add_assoc _ _ _))⟩)))
      repeat (go_quiet (first | (go_at_call 23; (with_reducible refine (wireloomref05_Same.calls k1 _ _ (rd_L2 l0 x5_1) _ _ (rd_L2 l1 x5_1) false _ ?side1 ?side2 ?side3 ?side4 A7.out).mono ?_); (case side1 => exact cA HR141_0.out); (case side2 => exact HC141_0.out); (case side3 => exact cA HR142_0.out); (case side4 => exact HC142_0.out); rintro e w' ⟨rfl, ⟨nd, rfl⟩⟩; (try first | exact ⟨rfl, _, World.drewN_drewN _ _ _⟩ | exact ⟨rfl, _, Eq.trans (World.drewN_drewN _ _ _) (congrArg (World.drewN _) (Nat.add_assoc _ _ _))⟩))); try go_wp2_with (first | (go_at_call 23; (with_reducible refine (wireloomref05_Same.calls k1 _ _ (rd_L2 l0 x5_1) _ _ (rd_L2 l1 x5_1) false _ ?side1 ?side2 ?side3 ?side4 A7.out).mono ?_); (case side1 => exact cA HR141_0.out); (case side2 => exact HC141_0.out); (case side3 => exact cA HR142_0.out); (case side4 => exact HC142_0.out); rintro e w' ⟨rfl, ⟨nd, rfl⟩⟩; (try first | exact ⟨rfl, _, World.drewN_drewN _ _ _⟩ | exact ⟨rfl, _, Eq.trans (World.drewN_drewN _ _ _) (congrArg (World.drewN _) (Nat.add_assoc _ _ _))⟩))))
      go_ret
      exact ⟨by first | rfl | (simp; done) | (simp [*]; done), by repeat (first | exact Drawn0.refl _ | apply Drawn0.step)⟩
    ·rw [if_neg c4] at H
     have c4b0 : decide (x5_1 < (l0.length : Int)) = false := decide_eq_false c4
     clear c4
     obtain rfl := Option.some.inj H
     go_wp2
     repeat (go_quiet (fail); try go_wp2)
     go_ret
     exact ⟨by first | rfl | (simp; done) | (simp [*]; done), by repeat (first | exact Drawn0.refl _ | apply Drawn0.step)⟩
 ·rw [if_neg c3] at H
  have c3b0 : ((l0.length : Int) == (l1.length : Int)) = false := beq_eq_false_iff_ne.mpr c3
  have c3b1 : ((l0.length : Int) != (l1.length : Int)) = true := bne_iff_ne.mpr c3
  have c3b2 : (l0.length == l1.length) = false := by first | simpa using c3 | (simp at c3 ⊢; omega)
  obtain rfl := Option.some.inj H
  go_enter Try.func26, Try.ntmps26
  go_wp2
  repeat (go_quiet (fail); try go_wp2)
  go_ret
  exact ⟨by first | rfl | (simp; done) | (simp [*]; done), by repeat (first | exact Drawn0.refl _ | apply Drawn0.step)⟩
end Go.Proofs.Ytlldjinejckbaaa.PD

end
section
namespace Go.Proofs.Ytlldjinejckbaaa.Cm
open Go Go.RowKit Go.Proofs.YtlldjinejckbaaaW.PrintWords Go.Proofs.YtlldjinejckbaaaW.PrintLast Go.Proofs.YtlldjinejckbaaaW.PrintMore
open Go.Proofs.Ytlldjinejckbaaa.It Go.Proofs.Ytlldjinejckbaaa.Mod
set_option linter.unusedVariables false
set_option linter.unusedSimpArgs false
theorem first_calls (a b : Addr) (n m c d : Nat) (x y : Int) (hn : 0 < n) (hm : 0 < m) (w : World) (h1 : w.cell? a = some (.int .i64 x)) (h2 : w.cell? b = some (.int .i64 y)) :
  Calls Try.prog 50 #[.slice (some a) n c, .slice (some b) m d] w fun e w' => e = .returned (.int .i64 (wrap64 (x - y))) ∧ ∃ q, w' = w.drewN q := by
 go_enter Try.func50, Try.ntmps50
 go_wp2
 go_region
 all_goals go_wp2
 all_goals exact bodyPost_ret (results_tmp rfl _ _ _) rfl ⟨rfl, 1, rfl⟩
end Go.Proofs.Ytlldjinejckbaaa.Cm

end
section
namespace Go.Proofs.Ytlldjinejckbaaa.Tj
open Go Go.RowKit Go.Proofs.YtlldjinejckbaaaW.PrintWords Go.Proofs.Ytlldjinejckbaaa.Mod
structure TS where
 count : Int
 num : List Int
 low : List Int
 opn : List Bool
 stack : List Int
 out : List (List Int)
def opnAt (o : List Bool) (x : Int) : Bool := o.getD x.toNat false
def sortA (xs : List Int) : List Int := xs.mergeSort fun x y => decide (x ≤ y)
def TS.meet (s : TS) (v : Int) : TS :=
 { s with count := wrap64 (s.count + 1), num := s.num.set v.toNat (wrap64 (s.count + 1)), low := s.low.set v.toNat (wrap64 (s.count + 1)), opn := s.opn.set v.toNat true, stack := s.stack ++ [v] }
def TS.shut (s : TS) (k : Nat) : TS :=
 { s with stack := s.stack.take k, opn := (s.stack.drop k).foldl (fun o x => o.set x.toNat false) s.opn, out := s.out ++ [sortA (s.stack.drop k)] }
def TS.lower (s : TS) (v x : Int) : TS := { s with low := s.low.set v.toNat (min (rd s.low v) x) }
def visitRow (vis : Int → TS → Option TS) (v : Int) : List Int → TS → Option TS
 | [], s => some s
 | x :: xs, s => if rd s.num x = 0 then (match vis x s with
   | some s' => visitRow vis v xs (s'.lower v (rd s'.low x))
   | none => none)
  else if opnAt s.opn x = true then visitRow vis v xs (s.lower v (rd s.num x)) else visitRow vis v xs s
def visit (rows : List (List Int)) : Nat → Int → TS → Option TS
 | 0, _, _ => none
 | f + 1, v, s => if 50000 < s.stack.length then none else match visitRow (visit rows f) v (row rows v) (s.meet v) with
  | none => none
  | some s2 => if rd s2.low v < rd s2.num v then some s2 else if 50000 < s2.stack.length ∨ 50000 < s2.out.length then none else (match s2.stack.findIdx? (· == v) with
   | some k => some (s2.shut k)
   | none => none)
def start (n : Nat) : TS := { count := 0, num := List.replicate n 0, low := List.replicate n 0, opn := List.replicate n false, stack := [], out := [] }
def visitAll (rows : List (List Int)) (n : Nat) : Nat → TS → Option TS
 | 0, s => some s
 | k + 1, s => if rd s.num ((n - (k + 1) : Nat) : Int) = 0 then (match visit rows (n + 1) ((n - (k + 1) : Nat) : Int) s with
   | some s' => visitAll rows n k s'
   | none => none) else visitAll rows n k s
def byFirst (a b : List Int) : Bool := decide (rd a 0 ≤ rd b 0)
def fine (l : List (List Int)) : Bool := l.all (fun c => !c.isEmpty && decide (0 ≤ rd c 0) && decide (rd c 0 < 100000)) && decide ((l.map (rd · 0)).Nodup) && decide (l.length ≤ 100000)
def compsOf (rows : List (List Int)) (n : Nat) : Option (List (List Int)) := match visitAll rows n n (start n) with
 | none => none
 | some s => if fine s.out = true then some (s.out.mergeSort byFirst) else none
end Go.Proofs.Ytlldjinejckbaaa.Tj

end
