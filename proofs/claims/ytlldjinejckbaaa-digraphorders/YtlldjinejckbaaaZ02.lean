/- The law DigraphOrders of package digraph holds for every input: what it is called with is opened, the printed text of the law and its plain proof are joined. (Part 3 of 5 of its proof.) -/
import Derived.Test.YtlldjinejckbaaaProg
import Derived.Below
import Derived.Deep.Draws
import Derived.Deep.AppendLies
import Derived.Maps.AppendAt
import Derived.OwnWalk
import Derived.Laws.BytesArg
import Derived.Laws.MakeOwn
import Derived.Laws.OwnMore
import Derived.Deep.OwnRows
import Derived.Tactics
import Derived.Laws.Slices
import Derived.WalkKit
import Derived.KernelRfl
import Derived.RowKit3
import Derived.Deep.LoopGhost
import Derived.Deep.QuietTactic
import Derived.BigQuiet
import Derived.WideLaws
import Derived.Deep.DeepCutAuto
import Derived.Deep.CutBlock
import Derived.Deep.RegionHeld3
import Derived.Laws.Rows
import Derived.ArgAppend
import Derived.Laws.IdiomCopy
import Derived.OrdersHeld
import Derived.Laws.BitsLemmas
import Derived.RowKit
import Derived.Outline
import Derived.Lib.Hide
import Derived.RegionTactic
import Derived.Shelf.SlSortCmp.NoneTotal
import Derived.Ground.SlsfProg
import Derived.Laws.EntriesVeiled
import Derived.Test.YtlldjinejckbaaaZ01
set_option linter.unusedVariables false
set_option linter.unusedSimpArgs false
section
namespace Go.Proofs.Ytlldjinejckbaaa.Tm
open Go Go.RowKit Go.Proofs.YtlldjinejckbaaaW.PrintWords Go.Proofs.YtlldjinejckbaaaW.PrintLast Go.Proofs.YtlldjinejckbaaaW.PrintMore
open Go.Proofs.Ytlldjinejckbaaa.It Go.Proofs.Ytlldjinejckbaaa.Mod Go.Proofs.Ytlldjinejckbaaa.Gs Go.Proofs.Ytlldjinejckbaaa.Lb Go.Proofs.Ytlldjinejckbaaa.Lc Go.Proofs.Ytlldjinejckbaaa.Gi Go.Proofs.Ytlldjinejckbaaa.Cy Go.Proofs.Ytlldjinejckbaaa.Ins Go.Proofs.Ytlldjinejckbaaa.Tj
set_option linter.unusedVariables false
set_option linter.unusedSimpArgs false
structure Bl where
 bc : Nat
 bn : Nat
 bl : Nat
 bo : Nat
 bs : Nat
 gb : Nat
 bf : Nat
 bu : Nat
 N : Nat
 L : Nat
 O : Nat
def Bl.ptrs (K : Bl) : Array Value := #[.pointer (some ⟨K.bc, 0, none⟩), .pointer (some ⟨K.bn, 0, none⟩), .pointer (some ⟨K.bl, 0, none⟩), .pointer (some ⟨K.bo, 0, none⟩), .pointer (some ⟨K.bs, 0, none⟩), .pointer (some ⟨K.gb, 0, none⟩), .pointer (some ⟨K.bf, 0, none⟩), .pointer (some ⟨K.bu, 0, none⟩)]
structure Bl.Lies (K : Bl) (w : World) (B : Nat) : Prop where
 lt : ∀ k, (k = K.bc ∨ k = K.bn ∨ k = K.bl ∨ k = K.bo ∨ k = K.bs ∨ k = K.gb ∨ k = K.bf ∨ k = K.bu ∨ k = K.N ∨ k = K.L ∨ k = K.O) → w.heap.size ≤ k ∧ k < B
 cN : K.bc ≠ K.N
 cL : K.bc ≠ K.L
 NL : K.N ≠ K.L
 nl : K.bn ≠ K.bl
 ns : K.bn ≠ K.bs
 ls : K.bl ≠ K.bs
abbrev KR : Kd (List Int) := Kd.slice 3 (Kd.int .i64)
structure TM (w W wK : World) (B : Nat) (K : Bl) (n B1 B2 : Nat) (vs vu : Value) (s : TS) : Prop where
 c : W.heap[K.bc]? = some (.cells #[.int .i64 s.count] 3 (0, 0))
 bn : W.heap[K.bn]? = some (.cells #[.slice (some ⟨K.N, 0, none⟩) n n] 26 (0, 0))
 nn : W.heap[K.N]? = some (.cells (s.num.map (Value.int .i64)).toArray 3 (0, 0))
 bl : W.heap[K.bl]? = some (.cells #[.slice (some ⟨K.L, 0, none⟩) n n] 26 (0, 0))
 ll : W.heap[K.L]? = some (.cells (s.low.map (Value.int .i64)).toArray 3 (0, 0))
 bo : W.heap[K.bo]? = some (.cells #[.slice (some ⟨K.O, 0, none⟩) n n] 49 (0, 0))
 oo : W.heap[K.O]? = some (.cells (s.opn.map Value.bool).toArray 4 (0, 0))
 bs : W.heap[K.bs]? = some (.cells #[vs] 26 (0, 0))
 st : RowI W B vs s.stack
 g : W.heap[K.gb]? = some (.cells #[.slice (some ⟨B1, 0, none⟩) n n, .slice (some ⟨B2, 0, none⟩) n n] 73 (0, 0))
 f : W.heap[K.bf]? = some (.cells #[.func (.func 46) #[] K.ptrs] 76 (0, 0))
 bu : W.heap[K.bu]? = some (.cells #[vu] 44 (0, 0))
 ou : Kd.S KR 26 W B (fun k => B ≤ k ∧ some k ≠ vs.ownBlock) vu s.out
 p : ∀ a v, wK.cell? a = some v → (a.block < B ∧ a.block ≠ K.bc ∧ a.block ≠ K.N ∧ a.block ≠ K.L ∧ a.block ≠ K.O ∧ a.block ≠ K.bs ∧ a.block ≠ K.bu) ∧ W.cell? a = some v
 be : Below w.heap.size w W
 sz : B ≤ W.heap.size
theorem set_bools (l : List Bool) (i : Nat) (x : Bool) : ((l.map Value.bool).toArray).setIfInBounds i (.bool x) = ((l.set i x).map Value.bool).toArray := by
 simp [List.map_set]
section
variable {w W wK w1 : World} {B n B1 B2 : Nat} {K : Bl} {vs vu : Value} {s : TS}
theorem TM.later (h : TM w W wK B K n B1 B2 vs vu s) (hb : Below W.heap.size W w1) : TM w w1 wK B K n B1 B2 vs vu s := by
 have hk : ∀ {k : Nat} {o : Obj}, W.heap[k]? = some o → w1.heap[k]? = some o := fun hk => (hb.block _ (blk_lt hk)).trans hk
 exact ⟨hk h.c, hk h.bn, hk h.nn, hk h.bl, hk h.ll, hk h.bo, hk h.oo, hk h.bs, h.st.move (fun k e => hb.block k (Kd.R_lt h.st k e)), hk h.g, hk h.f, hk h.bu, Kd.S_below h.ou hb, fun a v e => ⟨(h.p a v e).1, pw_cell_below hb (h.p a v e).2⟩, h.be.trans (hb.mono h.be.size), Nat.le_trans h.sz hb.size⟩
theorem TM.setN (h : TM w W wK B K n B1 B2 vs vu s) (hK : K.Lies w B) (i : Nat) (x : Int) : TM w (W.setCell ⟨K.N, i, none⟩ (.int .i64 x)) wK B K n B1 B2 vs vu { s with num := s.num.set i x } := by
 have hlt := hK.lt K.N (by simp)
 have hs : ∀ k, k ≠ K.N → (W.setCell ⟨K.N, i, none⟩ (.int .i64 x)).heap[k]? = W.heap[k]? := fun k hk => Below.heap_setCell _ _ _ _ hk
 exact ⟨blk_far h.c (p := ⟨K.N, i, none⟩) (hK.cN) _, blk_far h.bn (p := ⟨K.N, i, none⟩) (blk_ne h.bn h.nn (by decide)) _, by have := blk_set h.nn i (.int .i64 x); rwa [set_ints] at this, blk_far h.bl (p := ⟨K.N, i, none⟩) (blk_ne h.bl h.nn (by decide)) _, blk_far h.ll (p := ⟨K.N, i, none⟩) (Ne.symm hK.NL) _, blk_far h.bo (p := ⟨K.N, i, none⟩) (blk_ne h.bo h.nn (by decide)) _, blk_far h.oo (p := ⟨K.N, i, none⟩) (blk_ne h.oo h.nn (by decide)) _, blk_far h.bs (p := ⟨K.N, i, none⟩) (blk_ne h.bs h.nn (by decide)) _, h.st.move (fun k e => hs k (fun e' => by have := Kd.R_base h.st k e; omega)), blk_far h.g (p := ⟨K.N, i, none⟩) (blk_ne h.g h.nn (by decide)) _, blk_far h.f (p := ⟨K.N, i, none⟩) (blk_ne h.f h.nn (by decide)) _, blk_far h.bu (p := ⟨K.N, i, none⟩) (blk_ne h.bu h.nn (by decide)) _, Kd.S_far h.ou (fun k hk e => by have := hk.1; have e' : k = K.N := e; omega) _,
  fun a v e => by
   obtain ⟨h2, h3⟩ := h.p a v e
   exact ⟨h2, (World.cell?_of_block (hs _ h2.2.2.1)).trans h3⟩, h.be.setCell hlt.1 _, by have := h.sz; simpa using this⟩
theorem TM.setL (h : TM w W wK B K n B1 B2 vs vu s) (hK : K.Lies w B) (i : Nat) (x : Int) : TM w (W.setCell ⟨K.L, i, none⟩ (.int .i64 x)) wK B K n B1 B2 vs vu { s with low := s.low.set i x } := by
 have hlt := hK.lt K.L (by simp)
 have hs : ∀ k, k ≠ K.L → (W.setCell ⟨K.L, i, none⟩ (.int .i64 x)).heap[k]? = W.heap[k]? := fun k hk => Below.heap_setCell _ _ _ _ hk
 exact ⟨blk_far h.c (p := ⟨K.L, i, none⟩) (hK.cL) _, blk_far h.bn (p := ⟨K.L, i, none⟩) (blk_ne h.bn h.ll (by decide)) _, blk_far h.nn (p := ⟨K.L, i, none⟩) (hK.NL) _, blk_far h.bl (p := ⟨K.L, i, none⟩) (blk_ne h.bl h.ll (by decide)) _, by have := blk_set h.ll i (.int .i64 x); rwa [set_ints] at this, blk_far h.bo (p := ⟨K.L, i, none⟩) (blk_ne h.bo h.ll (by decide)) _, blk_far h.oo (p := ⟨K.L, i, none⟩) (blk_ne h.oo h.ll (by decide)) _, blk_far h.bs (p := ⟨K.L, i, none⟩) (blk_ne h.bs h.ll (by decide)) _, h.st.move (fun k e => hs k (fun e' => by have := Kd.R_base h.st k e; omega)), blk_far h.g (p := ⟨K.L, i, none⟩) (blk_ne h.g h.ll (by decide)) _, blk_far h.f (p := ⟨K.L, i, none⟩) (blk_ne h.f h.ll (by decide)) _, blk_far h.bu (p := ⟨K.L, i, none⟩) (blk_ne h.bu h.ll (by decide)) _, Kd.S_far h.ou (fun k hk e => by have := hk.1; have e' : k = K.L := e; omega) _,
  fun a v e => by
   obtain ⟨h2, h3⟩ := h.p a v e
   exact ⟨h2, (World.cell?_of_block (hs _ h2.2.2.2.1)).trans h3⟩, h.be.setCell hlt.1 _, by have := h.sz; simpa using this⟩
theorem TM.setO (h : TM w W wK B K n B1 B2 vs vu s) (hK : K.Lies w B) (i : Nat) (x : Bool) : TM w (W.setCell ⟨K.O, i, none⟩ (.bool x)) wK B K n B1 B2 vs vu { s with opn := s.opn.set i x } := by
 have hlt := hK.lt K.O (by simp)
 have hs : ∀ k, k ≠ K.O → (W.setCell ⟨K.O, i, none⟩ (.bool x)).heap[k]? = W.heap[k]? := fun k hk => Below.heap_setCell _ _ _ _ hk
 exact ⟨blk_far h.c (p := ⟨K.O, i, none⟩) (blk_ne h.c h.oo (by decide)) _, blk_far h.bn (p := ⟨K.O, i, none⟩) (blk_ne h.bn h.oo (by decide)) _, blk_far h.nn (p := ⟨K.O, i, none⟩) (blk_ne h.nn h.oo (by decide)) _, blk_far h.bl (p := ⟨K.O, i, none⟩) (blk_ne h.bl h.oo (by decide)) _, blk_far h.ll (p := ⟨K.O, i, none⟩) (blk_ne h.ll h.oo (by decide)) _, blk_far h.bo (p := ⟨K.O, i, none⟩) (blk_ne h.bo h.oo (by decide)) _, by have := blk_set h.oo i (.bool x); rwa [set_bools] at this, blk_far h.bs (p := ⟨K.O, i, none⟩) (blk_ne h.bs h.oo (by decide)) _, h.st.move (fun k e => hs k (fun e' => by have := Kd.R_base h.st k e; omega)), blk_far h.g (p := ⟨K.O, i, none⟩) (blk_ne h.g h.oo (by decide)) _, blk_far h.f (p := ⟨K.O, i, none⟩) (blk_ne h.f h.oo (by decide)) _, blk_far h.bu (p := ⟨K.O, i, none⟩) (blk_ne h.bu h.oo (by decide)) _, Kd.S_far h.ou (fun k hk e => by have := hk.1; have e' : k = K.O := e; omega) _,
  fun a v e => by
   obtain ⟨h2, h3⟩ := h.p a v e
   exact ⟨h2, (World.cell?_of_block (hs _ h2.2.2.2.2.1)).trans h3⟩, h.be.setCell hlt.1 _, by have := h.sz; simpa using this⟩
theorem TM.setC (h : TM w W wK B K n B1 B2 vs vu s) (hK : K.Lies w B) (x : Int) : TM w (W.setCell ⟨K.bc, 0, none⟩ (.int .i64 x)) wK B K n B1 B2 vs vu { s with count := x } := by
 have hlt := hK.lt K.bc (by simp)
 have hs : ∀ k, k ≠ K.bc → (W.setCell ⟨K.bc, 0, none⟩ (.int .i64 x)).heap[k]? = W.heap[k]? := fun k hk => Below.heap_setCell _ _ _ _ hk
 have ht : ∀ {k t : Nat} {cs : Array Value}, W.heap[k]? = some (.cells cs t (0, 0)) → t ≠ 3 → (W.setCell ⟨K.bc, 0, none⟩ (.int .i64 x)).heap[k]? = some (.cells cs t (0, 0)) := fun hk ht => (hs _ (blk_ne hk h.c ht)).trans hk
 exact ⟨by have := blk_set h.c 0 (.int .i64 x); simpa using this, ht h.bn (by decide), (hs _ (Ne.symm hK.cN)).trans h.nn, ht h.bl (by decide), (hs _ (Ne.symm hK.cL)).trans h.ll, ht h.bo (by decide), ht h.oo (by decide), ht h.bs (by decide),
  h.st.move (fun k e => hs k (fun e' => by have := Kd.R_base h.st k e; omega)), ht h.g (by decide), ht h.f (by decide), ht h.bu (by decide), Kd.S_far h.ou (fun k hk e => by have := hk.1; have e' : k = K.bc := e; omega) _,
  fun a v e => by
   obtain ⟨h2, h3⟩ := h.p a v e
   exact ⟨h2, (World.cell?_of_block (hs _ h2.2.1)).trans h3⟩, h.be.setCell hlt.1 _, by have := h.sz; simpa using this⟩
theorem TM.push {vs1 : Value} {stack : List Int} (h : TM w W wK B K n B1 B2 vs vu s) (hK : K.Lies w B) (h1 : RowI w1 B vs1 stack) (hg : W.grownBy w1 vs.ownBlock) (hat : vs1.ownBlock = vs.ownBlock ∨ ∃ b, vs1.ownBlock = some b ∧ W.heap.size ≤ b) :
  TM w (w1.setCell ⟨K.bs, 0, none⟩ vs1) wK B K n B1 B2 vs1 vu { s with stack := stack } := by
 have hlt := hK.lt K.bs (by simp)
 have hb : ∀ k, k < B → w1.heap[k]? = W.heap[k]? := fun k hk => hg.block k (Nat.lt_of_lt_of_le hk h.sz) (fun e => by have := Kd.R_base h.st k e.symm; omega)
 have hs : ∀ k, k ≠ K.bs → (w1.setCell ⟨K.bs, 0, none⟩ vs1).heap[k]? = w1.heap[k]? := fun k hk => Below.heap_setCell _ _ _ _ hk
 have ht : ∀ {k t : Nat} {cs : Array Value}, W.heap[k]? = some (.cells cs t (0, 0)) → k < B → k ≠ K.bs → (w1.setCell ⟨K.bs, 0, none⟩ vs1).heap[k]? = some (.cells cs t (0, 0)) := fun hk hB hne => ((hs _ hne).trans (hb _ hB)).trans hk
 have hl : ∀ k, (k = K.bc ∨ k = K.bn ∨ k = K.bl ∨ k = K.bo ∨ k = K.bs ∨ k = K.gb ∨ k = K.bf ∨ k = K.bu ∨ k = K.N ∨ k = K.L ∨ k = K.O) → k < B := fun k hk => (hK.lt k hk).2
 refine ⟨ht h.c (hl _ (by simp)) (blk_ne h.c h.bs (by decide)), ht h.bn (hl _ (by simp)) hK.ns, ht h.nn (hl _ (by simp)) (blk_ne h.nn h.bs (by decide)), ht h.bl (hl _ (by simp)) hK.ls, ht h.ll (hl _ (by simp)) (blk_ne h.ll h.bs (by decide)), ht h.bo (hl _ (by simp)) (blk_ne h.bo h.bs (by decide)), ht h.oo (hl _ (by simp)) (blk_ne h.oo h.bs (by decide)), ?_,
  h1.move (fun k e => hs k (fun e' => by have := Kd.R_base h1 k e; omega)), ht h.g (hl _ (by simp)) (blk_ne h.g h.bs (by decide)), ht h.f (hl _ (by simp)) (blk_ne h.f h.bs (by decide)), ht h.bu (hl _ (by simp)) (blk_ne h.bu h.bs (by decide)),
  Kd.S_far (Kd.S_after h.ou hg hat) (fun k hk e => by have := hk.1; have e' : k = K.bs := e; omega) _,
  fun a v e => by
   obtain ⟨h2, h3⟩ := h.p a v e
   exact ⟨h2, (World.cell?_of_block ((hs _ h2.2.2.2.2.2.1).trans (hb _ h2.1))).trans h3⟩, (h.be.grown hg h.be.size (fun k e => by have := Kd.R_base h.st k e; omega)).setCell hlt.1 _, by have := h.sz; have := hg.size; simp; omega⟩
 have h2 := blk_set ((hb K.bs hlt.2).trans h.bs) 0 vs1
 simpa using h2
theorem TM.big {row : Option Nat} {S0 : Nat} (h : TM w W wK B K n B1 B2 vs vu s) (hK : K.Lies w B) (hg : W.grownBy w1 row) (hr : ∀ k, row = some k → S0 ≤ k) (hB : B ≤ S0) (hst : ∀ k, vs.ownBlock = some k → k < S0)
  (hou : Kd.S KR 26 W B (fun k => (B ≤ k ∧ some k ≠ vs.ownBlock) ∧ k < S0) vu s.out) : TM w w1 wK B K n B1 B2 vs vu s := by
 have hlt := hK.lt K.bs (by simp)
 have hb : ∀ k, k < S0 → k < W.heap.size → w1.heap[k]? = W.heap[k]? := fun k hk hw => hg.block k hw (fun e => by have := hr k e.symm; omega)
 have hl : ∀ k, (k = K.bc ∨ k = K.bn ∨ k = K.bl ∨ k = K.bo ∨ k = K.bs ∨ k = K.gb ∨ k = K.bf ∨ k = K.bu ∨ k = K.N ∨ k = K.L ∨ k = K.O) → k < B := fun k hk => (hK.lt k hk).2
 have ht : ∀ {k : Nat} {o : Obj}, W.heap[k]? = some o → k < B → w1.heap[k]? = some o := fun hk hB' => (hb _ (by omega) (blk_lt hk)).trans hk
 exact ⟨ht h.c (hl _ (by simp)), ht h.bn (hl _ (by simp)), ht h.nn (hl _ (by simp)), ht h.bl (hl _ (by simp)), ht h.ll (hl _ (by simp)), ht h.bo (hl _ (by simp)), ht h.oo (hl _ (by simp)), ht h.bs (hl _ (by simp)),
  h.st.move (fun k e => hb k (hst k e) (Kd.R_lt h.st k e)), ht h.g (hl _ (by simp)), ht h.f (hl _ (by simp)), ht h.bu (hl _ (by simp)),
  Kd.S_mono (Kd.S_step hou (fun k hk hw => hb k hk.2 hw)) (fun _ hk => hk.1),
  fun a v e => by
   obtain ⟨h2, h3⟩ := h.p a v e
   exact ⟨h2, (World.cell?_of_block (hb _ (by have := h2.1; omega) (World.block_lt_of_cell? _ _ h3))).trans h3⟩,
  h.be.grown hg h.be.size (fun k e => by have := hr k e; omega), Nat.le_trans h.sz hg.size⟩
theorem TM.outs {vu1 : Value} {out : List (List Int)} (h : TM w W wK B K n B1 B2 vs vu s) (hK : K.Lies w B) (h1 : Kd.S KR 26 w1 B (fun k => B ≤ k ∧ some k ≠ vs.ownBlock) vu1 out) (hg : W.grownBy w1 vu.ownBlock) :
  TM w (w1.setCell ⟨K.bu, 0, none⟩ vu1) wK B K n B1 B2 vs vu1 { s with out := out } := by
 have hlt := hK.lt K.bu (by simp)
 have hvu : ∀ k, vu.ownBlock = some k → B ≤ k ∧ some k ≠ vs.ownBlock := (Kd.S_R h.ou).1
 have hb : ∀ k, k < B → w1.heap[k]? = W.heap[k]? := fun k hk => hg.block k (Nat.lt_of_lt_of_le hk h.sz) (fun e => by have := (hvu k e.symm).1; omega)
 have hs : ∀ k, k ≠ K.bu → (w1.setCell ⟨K.bu, 0, none⟩ vu1).heap[k]? = w1.heap[k]? := fun k hk => Below.heap_setCell _ _ _ _ hk
 have ht : ∀ {k t : Nat} {cs : Array Value}, W.heap[k]? = some (.cells cs t (0, 0)) → k < B → t ≠ 44 → (w1.setCell ⟨K.bu, 0, none⟩ vu1).heap[k]? = some (.cells cs t (0, 0)) := fun hk hB hne => ((hs _ (blk_ne hk h.bu hne)).trans (hb _ hB)).trans hk
 have hl : ∀ k, (k = K.bc ∨ k = K.bn ∨ k = K.bl ∨ k = K.bo ∨ k = K.bs ∨ k = K.gb ∨ k = K.bf ∨ k = K.bu ∨ k = K.N ∨ k = K.L ∨ k = K.O) → k < B := fun k hk => (hK.lt k hk).2
 refine ⟨ht h.c (hl _ (by simp)) (by decide), ht h.bn (hl _ (by simp)) (by decide), ht h.nn (hl _ (by simp)) (by decide), ht h.bl (hl _ (by simp)) (by decide), ht h.ll (hl _ (by simp)) (by decide), ht h.bo (hl _ (by simp)) (by decide), ht h.oo (hl _ (by simp)) (by decide), ht h.bs (hl _ (by simp)) (by decide),
  h.st.move (fun k e => (hs k (fun e' => by have := Kd.R_base h.st k e; omega)).trans (hg.block k (Kd.R_lt h.st k e) (fun e' => (hvu k e'.symm).2 e.symm))), ht h.g (hl _ (by simp)) (by decide), ht h.f (hl _ (by simp)) (by decide), ?_,
  Kd.S_far h1 (fun k hk e => by have := hk.1; have e' : k = K.bu := e; omega) _,
  fun a v e => by
   obtain ⟨h2, h3⟩ := h.p a v e
   exact ⟨h2, (World.cell?_of_block ((hs _ h2.2.2.2.2.2.2).trans (hb _ h2.1))).trans h3⟩, (h.be.grown hg h.be.size (fun k e => by have := (hvu k e).1; omega)).setCell hlt.1 _, by have := h.sz; have := hg.size; simp; omega⟩
 have h2 := blk_set ((hb K.bu hlt.2).trans h.bu) 0 vu1
 simpa using h2
end
end Go.Proofs.Ytlldjinejckbaaa.Tm

end
section
namespace Go.Proofs.Ytlldjinejckbaaa.Vi
open Go.Proofs.Ytlldjinejckbaaa.PD (pV pU tV bz)
open Go Go.RowKit Go.Proofs.YtlldjinejckbaaaW.PrintWords Go.Proofs.YtlldjinejckbaaaW.PrintLast Go.Proofs.YtlldjinejckbaaaW.PrintMore
open Go.Proofs.Ytlldjinejckbaaa.It Go.Proofs.Ytlldjinejckbaaa.Mod Go.Proofs.Ytlldjinejckbaaa.Gs Go.Proofs.Ytlldjinejckbaaa.Lb Go.Proofs.Ytlldjinejckbaaa.Lc Go.Proofs.Ytlldjinejckbaaa.Gi Go.Proofs.Ytlldjinejckbaaa.Cy Go.Proofs.Ytlldjinejckbaaa.Ins Go.Proofs.Ytlldjinejckbaaa.Tj Go.Proofs.Ytlldjinejckbaaa.Tm
set_option linter.unusedVariables false
set_option linter.unusedSimpArgs false
theorem bools_cell {W : World} {L : Nat} {l : List Bool} (h : W.heap[L]? = some (.cells (l.map Value.bool).toArray 4 (0, 0))) (x : Int) (h0 : 0 ≤ x) (h1 : x < l.length) : W.cell? ⟨L, x.toNat, none⟩ = some (.bool (opnAt l x)) := by
 rw [blk_cell h]
 unfold opnAt
 rw [List.getD_eq_getElem?_getD, List.getElem?_toArray, List.getElem?_map, List.getElem?_eq_getElem (by omega)]
 rfl
theorem foldl_setb_len (l : List Int) : ∀ (o : List Bool), (l.foldl (fun o x => o.set x.toNat false) o).length = o.length := by
 induction l with
 | nil => intro o; rfl
 | cons x l ih => intro o; rw [List.foldl_cons, ih]; simp
structure Fit (s : TS) (n : Nat) : Prop where
 num : s.num.length = n
 low : s.low.length = n
 opn : s.opn.length = n
 stk : ∀ x ∈ s.stack, 0 ≤ x ∧ x < (n : Int)
theorem Fit.shut {s : TS} {n : Nat} (h : Fit s n) (k : Nat) : Fit (s.shut k) n := ⟨h.num, h.low, by unfold TS.shut; rw [foldl_setb_len]; exact h.opn, fun x hx => h.stk x (List.mem_of_mem_take hx)⟩
theorem Fit.lower {s : TS} {n : Nat} (h : Fit s n) (v x : Int) : Fit (s.lower v x) n := ⟨h.num, by unfold TS.lower; simp [h.low], h.opn, h.stk⟩
theorem Fit.meet {s : TS} {n : Nat} (h : Fit s n) {v : Int} (h0 : 0 ≤ v) (h1 : v < n) : Fit (s.meet v) n := ⟨by simp [TS.meet, h.num], by simp [TS.meet, h.low], by simp [TS.meet, h.opn], fun x hx => by
 unfold TS.meet at hx
 rcases List.mem_append.1 hx with hx | hx
 ·exact h.stk x hx
 ·simp at hx; subst hx; exact ⟨h0, h1⟩⟩
theorem fit_row {n : Nat} {vis : Int → TS → Option TS} (hvis : ∀ x s s', 0 ≤ x → x < (n : Int) → Fit s n → vis x s = some s' → Fit s' n) (v : Int) : ∀ (xs : List Int) (s s' : TS), (∀ x ∈ xs, 0 ≤ x ∧ x < (n : Int)) → Fit s n → visitRow vis v xs s = some s' → Fit s' n
 | [], s, s', _, hF, h => by unfold visitRow at h; rw [← Option.some.inj h]; exact hF
 | x :: xs, s, s', hx, hF, h => by
  unfold visitRow at h
  split at h
  ·split at h
   ·rename_i s1 h1
    exact fit_row hvis v xs _ s' (fun y hy => hx y (List.mem_cons_of_mem _ hy)) ((hvis x s s1 (hx x (by simp)).1 (hx x (by simp)).2 hF h1).lower _ _) h
   ·exact absurd h (by simp)
  ·split at h
   ·exact fit_row hvis v xs _ s' (fun y hy => hx y (List.mem_cons_of_mem _ hy)) (hF.lower _ _) h
   ·exact fit_row hvis v xs _ s' (fun y hy => hx y (List.mem_cons_of_mem _ hy)) hF h
theorem fit_visit {n : Nat} {rows : List (List Int)} (hf : Fits rows) (hN : rows.length = n) : ∀ (f : Nat) (v : Int) (s s' : TS), 0 ≤ v → v < (n : Int) → Fit s n → visit rows f v s = some s' → Fit s' n
 | 0, v, s, s', _, _, _, h => by simp [visit] at h
 | f + 1, v, s, s', h0, h1, hF, h => by
  unfold visit at h
  split at h
  ·exact absurd h (by simp)
  ·split at h
   ·exact absurd h (by simp)
   ·rename_i s2 h2
    have hF2 := fit_row (fun x a b => fit_visit hf hN f x a b) v (row rows v) _ s2 (fun x hx => by have := fits_row hf v x hx; omega) (hF.meet h0 h1) h2
    split at h
    ·rw [← Option.some.inj h]; exact hF2
    ·split at h
     ·exact absurd h (by simp)
     ·split at h
      ·rw [← Option.some.inj h]; exact hF2.shut _
      ·exact absurd h (by simp)
theorem idxFrom_find (x : Int) : ∀ (l : List Int) (i k : Nat), l.findIdx? (· == x) = some k → Lib.idxFrom l x i = ((i + k : Nat) : Int) ∧ k < l.length
 | [], i, k, h => by simp at h
 | z :: l, i, k, h => by
  rw [List.findIdx?_cons] at h
  by_cases hz : z = x
  ·have e : (z == x) = true := by simpa using hz
   rw [if_pos e] at h
   obtain rfl := Option.some.inj h
   exact ⟨by simp [Lib.idxFrom, hz], by simp⟩
  ·have e : ¬ (z == x) = true := by simpa using hz
   rw [if_neg e] at h
   obtain ⟨k1, h1, rfl⟩ := Option.map_eq_some_iff.1 h
   obtain ⟨h2, h3⟩ := idxFrom_find x l (i + 1) k1 h1
   refine ⟨?_, by simp; omega⟩
   simp only [Lib.idxFrom]
   rw [if_neg hz, h2]
   congr 1
   omega
theorem idx_find {l : List Int} {x : Int} {k : Nat} (h : l.findIdx? (· == x) = some k) : Lib.idxOf l x = (k : Int) ∧ k < l.length := by
 obtain ⟨h1, h2⟩ := idxFrom_find x l 0 k h
 exact ⟨by unfold Lib.idxOf; rw [h1, Nat.zero_add], h2⟩
def vi.T1 : Bool × List (List Nat × List Nat) := (true, [([], []), ([], []), ([], []), ([], []), ([], []), ([], []), ([], []), ([], []), ([0, 1, 0, 1, 6], [0, 1]), ([8, 6, 0, 1, 6], [6, 8]), ([2, 3, 0, 1, 2, 3, 6, 7, 8, 9], [2, 3]), ([10, 7, 9, 0, 1, 2, 3, 6, 7, 8, 9], [7, 10]), ([4, 5, 0, 1, 2, 3, 4, 5, 6, 7, 8, 9, 10, 11], [4, 5]), ([12, 11, 0, 1, 2, 3, 4, 5, 6, 7, 8, 9, 10, 11], [12])])
def vi.B1 : List Nat := [0, 0, 0, 0, 0, 0, 0, 0, 67, 323, 975, 1999, 4095, 8191]
theorem vi.tab1 : rtab .any (opsOf Try.f46 1) = vi.T1 := by kernel_rfl
theorem vi.bits1 : waitsOk vi.T1.2 vi.B1 = true := by kernel_rfl
def vi.T8 : Bool × List (List Nat × List Nat) := (true, [([], []), ([], []), ([], []), ([], []), ([2, 3], [2, 3]), ([4], [4]), ([], []), ([], []), ([6, 7], [6, 7]), ([8], [8]), ([5, 9], [5, 9]), ([0, 1, 0, 1, 2, 3, 4, 5, 6, 7, 8, 9, 10], [0, 1]), ([11, 10, 0, 1, 2, 3, 4, 5, 6, 7, 8, 9, 10], [10, 11])])
def vi.B8 : List Nat := [0, 0, 0, 0, 12, 28, 0, 0, 192, 448, 1020, 2047, 4095]
theorem vi.tab8 : rtab .any (opsOf Try.f46 8) = vi.T8 := by kernel_rfl
theorem vi.bits8 : waitsOk vi.T8.2 vi.B8 = true := by kernel_rfl
def vi.T10 : Bool × List (List Nat × List Nat) := (true, [([], []), ([], []), ([], []), ([], []), ([2, 3], [2, 3]), ([4], [4]), ([], []), ([], []), ([6, 7], [6, 7]), ([8], [8]), ([5, 9], [5, 9]), ([0, 1, 0, 1, 2, 3, 4, 5, 6, 7, 8, 9, 10], [0, 1]), ([11, 10, 0, 1, 2, 3, 4, 5, 6, 7, 8, 9, 10], [10, 11])])
def vi.B10 : List Nat := [0, 0, 0, 0, 12, 28, 0, 0, 192, 448, 1020, 2047, 4095]
theorem vi.tab10 : rtab .any (opsOf Try.f46 10) = vi.T10 := by kernel_rfl
theorem vi.bits10 : waitsOk vi.T10.2 vi.B10 = true := by kernel_rfl
def vi.T12 : Bool × List (List Nat × List Nat) := (true, [([], []), ([], []), ([0, 1], [0, 1]), ([2], [2]), ([], []), ([], []), ([4, 5], [4, 5]), ([6], [6]), ([3, 7], [3, 7])])
def vi.B12 : List Nat := [0, 0, 3, 7, 0, 0, 48, 112, 255]
theorem vi.tab12 : rtab .any (opsOf Try.f46 12) = vi.T12 := by kernel_rfl
theorem vi.bits12 : waitsOk vi.T12.2 vi.B12 = true := by kernel_rfl
set_option maxHeartbeats 4000000 in
set_option maxRecDepth 100000 in
theorem visit_calls (n : Nat) (hn : n ≤ 1000) (B1 B2 B : Nat) (Z : Bl) (rows : List (List Int)) (hN : rows.length = n) (hfits : Fits rows) (hlens : ∀ r ∈ rows, r.length ≤ 10000) (w wK : World) (hZ : Z.Lies w B) (hk : Kd.C It.KR wK (some ⟨B1, 0, none⟩) n rows) :
  ∀ (f : Nat) (v : Int) (s s' : TS) (W : World) (vs vu : Value), 0 ≤ v → v < n → Fit s n → TM w W wK B Z n B1 B2 vs vu s → visit rows f v s = some s' →
   Calls Try.prog 46 (#[.int .i64 v] ++ Z.ptrs) W fun e W' => e = .returned (.tuple #[]) ∧ ∃ vs' vu', TM w W' wK B Z n B1 B2 vs' vu' s' := by
 intro f
 induction f with
 | zero => intro v s s' W vs vu _ _ _ _ h; simp [visit] at h
 | succ f ih =>
  intro v s s' W vs vu h0 h1 hF hT hv
  have hst : s.stack.length ≤ 50000 := by
   unfold visit at hv
   split at hv
   ·exact absurd hv (by simp)
   ·omega
  have k1 : W.cell? ⟨Z.bc, 0, none⟩ = some (.int .i64 s.count) := (blk_cell hT.c 0).trans rfl
  have kf := blk_frozen hT.c 0
  have HT := Aside0.mk hT
  have HV := Aside0.mk hv
  have HI := Aside0.mk ih
  clear hT hv ih
  unfold Bl.ptrs
  simp only [List.append_toArray, List.cons_append, List.nil_append]
  go_enter Try.func46, Try.ntmps46
  go_upto_region 1 with (fail)
  have HT1 := Aside0.mk (HT.out.setC hZ (wrap64 (s.count + 1)))
  generalize W.setCell ⟨Z.bc, 0, none⟩ (.int .i64 (wrap64 (s.count + 1))) = W6 at HT1 ⊢
  obtain ⟨cc, hcc⟩ : ∃ cc, cc = wrap64 (s.count + 1) := ⟨_, rfl⟩
  rw [← hcc] at HT1 ⊢
  have HCC := Aside0.mk hcc
  clear hcc
  clear k1 kf
  have q1 : W6.cell? ⟨Z.bn, 0, none⟩ = some (.slice (some ⟨Z.N, 0, none⟩) n n) := (blk_cell HT1.out.bn 0).trans rfl
  have q2 : W6.cell? ⟨Z.bl, 0, none⟩ = some (.slice (some ⟨Z.L, 0, none⟩) n n) := (blk_cell HT1.out.bl 0).trans rfl
  have q3 : W6.cell? ⟨Z.bo, 0, none⟩ = some (.slice (some ⟨Z.O, 0, none⟩) n n) := (blk_cell HT1.out.bo 0).trans rfl
  have q4 : W6.cell? ⟨Z.bc, 0, none⟩ = some (.int .i64 cc) := (blk_cell HT1.out.c 0).trans rfl
  refine start_ (n := 14) (S := fun w' => w'.cell? ⟨Z.bn, 0, none⟩ = some (.slice (some ⟨Z.N, 0, none⟩) n n) ∧ w'.cell? ⟨Z.bl, 0, none⟩ = some (.slice (some ⟨Z.L, 0, none⟩) n n) ∧ w'.cell? ⟨Z.bo, 0, none⟩ = some (.slice (some ⟨Z.O, 0, none⟩) n n) ∧ w'.cell? ⟨Z.bc, 0, none⟩ = some (.int .i64 cc)) (ds := [13]) #[false, false, false, false, false, false, false, false, false, false, false, false, false, false] (by kernel_rfl) rfl rfl ⟨q1, q2, q3, q4⟩ (fun hHeld => ?_); refine with_tabW vi.tab1 vi.bits1 (fun HT_ HW_ => ?_)
  have HT7 := Aside0.mk (HT1.out.later (below_drew (Below.refl _ _)))
  generalize W6.drew = W7 at HT7 hHeld ⊢
  refine pV 1 19 (bz 14 0x2) HT_.out ?_
  refine pV 3 21 (bz 14 0xa) HT_.out ?_
  refine pV 5 23 (bz 14 0x2a) HT_.out ?_
  refine tV 0 18 (bz 14 0x2b) HT_.out HW_.out hHeld rfl rfl (by rintro w' ⟨s0, s1, s2, s3⟩; go_simp; with_reducible rfl) ?_
  refine tV 2 20 (bz 14 0x2f) HT_.out HW_.out hHeld rfl rfl (by rintro w' ⟨s0, s1, s2, s3⟩; go_simp; with_reducible rfl) ?_
  refine tV 4 22 (bz 14 0x3f) HT_.out HW_.out hHeld rfl rfl (by rintro w' ⟨s0, s1, s2, s3⟩; go_simp; with_reducible rfl) ?_
  refine tV 6 24 (bz 14 0x7f) HT_.out HW_.out hHeld rfl rfl (by rintro w' ⟨s0, s1, s2, s3⟩; go_simp; with_reducible rfl) ?_
  refine pV 8 26 (bz 14 0x17f) HT_.out ?_
  refine tV 7 25 (bz 14 0x1ff) HT_.out HW_.out hHeld rfl rfl (by rintro w' ⟨s0, s1, s2, s3⟩; go_simp; with_reducible rfl) ?_
  refine one_ (i := 9) (N := none) (bz 14 0x3ff) rfl rfl (one_of HT_.out (by kernel_rfl)) (by decide) (fun K hK => ?_)
  have hz_ : W7.frozen? ⟨Z.N, v.toNat, none⟩ = false := blk_frozen HT7.out.nn _
  have hc_ := ints_cell HT7.out.nn v h0 (by have := hF.num; simp only; omega)
  refine skip_ (w1 := W7.setCell ⟨Z.N, v.toNat, none⟩ (.int .i64 cc)) (by rfl) rfl ?hrS ?_
  case hrS => first | (go_simp; done) | (go_simp; rfl)
  have HT8 := Aside0.mk (HT7.out.setN hZ v.toNat cc)
  refine hK.out _ _ ⟨(blk_cell HT8.out.bn 0).trans rfl, (blk_cell HT8.out.bl 0).trans rfl, (blk_cell HT8.out.bo 0).trans rfl, (blk_cell HT8.out.c 0).trans rfl⟩ (fun hHeld2_ => ?_)
  clear hK K hz_ hc_
  generalize W7.setCell ⟨Z.N, v.toNat, none⟩ (.int .i64 cc) = W8 at HT8 ⊢
  refine pV 10 27 (bz 14 0x7ff) HT_.out ?_
  refine one_ (i := 11) (N := none) (bz 14 0xfff) rfl rfl (one_of HT_.out (by kernel_rfl)) (by decide) (fun K hK => ?_)
  have hz_ : W8.frozen? ⟨Z.L, v.toNat, none⟩ = false := blk_frozen HT8.out.ll _
  have hc_ := ints_cell HT8.out.ll v h0 (by have := hF.low; simp only; omega)
  refine skip_ (w1 := W8.setCell ⟨Z.L, v.toNat, none⟩ (.int .i64 cc)) (by rfl) rfl ?hrS ?_
  case hrS => first | (go_simp; done) | (go_simp; rfl)
  have HT9 := Aside0.mk (HT8.out.setL hZ v.toNat cc)
  refine hK.out _ _ ⟨(blk_cell HT9.out.bn 0).trans rfl, (blk_cell HT9.out.bl 0).trans rfl, (blk_cell HT9.out.bo 0).trans rfl, (blk_cell HT9.out.c 0).trans rfl⟩ (fun hHeld2_ => ?_)
  clear hK K hz_ hc_
  generalize W8.setCell ⟨Z.L, v.toNat, none⟩ (.int .i64 cc) = W9 at HT9 ⊢
  refine pV 12 28 (bz 14 0x1fff) HT_.out ?_
  refine last_ (i := 13) (N := none) (bz 14 0x3fff) rfl rfl (one_of HT_.out (by kernel_rfl)) (by decide) (fun K hK => ?_)
  have hz_ : W9.frozen? ⟨Z.O, v.toNat, none⟩ = false := blk_frozen HT9.out.oo _
  have hc_ := bools_cell HT9.out.oo v h0 (by have := hF.opn; simp only; omega)
  refine skip_ (w1 := W9.setCell ⟨Z.O, v.toNat, none⟩ (.bool true)) (by rfl) rfl ?hrS ?_
  case hrS => first | (go_simp; done) | (go_simp; rfl)
  have HT10 := Aside0.mk (HT9.out.setO hZ v.toNat true)
  refine hK.out _ _ ?_
  clear hK K hz_ hc_
  generalize W9.setCell ⟨Z.O, v.toNat, none⟩ (.bool true) = W10 at HT10 ⊢
  refine done_ (done_of HT_.out (by kernel_rfl)) ?_
  have HM : Aside0 (TM w W10 wK B Z n B1 B2 vs vu { s with count := cc, num := s.num.set v.toNat cc, low := s.low.set v.toNat cc, opn := s.opn.set v.toNat true }) := ⟨HT10.out⟩
  have k5 : W10.cell? ⟨Z.bs, 0, none⟩ = some vs := (blk_cell HM.out.bs 0).trans rfl
  have k5f := blk_frozen HM.out.bs 0
  have hsl : (s.stack.length + 1) * 8 ≤ 140737488355328 := by omega
  clear HT1 HT7 HT8 HT9 HT10 q1 q2 q3 q4
  go_upto_region 3 with ((with_reducible refine gate_builtin (b := .append) (xs := #[.tmp 29, .tmp 31]) rfl ?_); at_builtin; go_loud (refine Kd.R_append (Kd.int .i64) (w0 := W10) B rfl (.tmp 29) (.tmp 31) 26 3 (.int .i64 0) 8 rfl Try.underlying26 It.info3 rfl (by decide) (by omega) vs s.stack v [.int .i64 v] (fun _ => True) (fun _ => False) rfl rfl ?aP (fun _ hk => hk.elim) (fun _ _ => trivial) HM.out.st.any ?aB ?aS hsl ?_; (case aP => exact rfl); (case aB => exact ⟨rfl, rfl, rfl, Nat.le_refl _, fun _ _ => rfl⟩); (case aS => exact HM.out.sz)); intro v5 w5 ho hb hg hat; obtain ⟨g5, c5, rfl, _, _, _⟩ := Kd.R_form ho (by simp); have k6 := (blk_cell (blk_grown HM.out.bs hg (Ne.symm (rowi_ne HM.out.st HM.out.bs (by decide)))) 0).trans rfl; have k6f := blk_frozen (blk_grown HM.out.bs hg (Ne.symm (rowi_ne HM.out.st HM.out.bs (by decide)))) 0; have HM5 := Aside0.mk (HM.out.push hZ (RowI.of ho) hg hat); clear ho hb hg hat k5 k5f)
  simp only [List.length_append, List.length_singleton] at HM5
  obtain ⟨s1, hs1⟩ : ∃ s1 : TS, s1 = { s with count := cc, num := s.num.set v.toNat cc, low := s.low.set v.toNat cc, opn := s.opn.set v.toNat true, stack := s.stack ++ [v] } := ⟨_, rfl⟩
  rw [← hs1] at HM5
  have HF5 : Aside0 (Fit s1 n) := ⟨by rw [hs1]; exact ⟨by simp [hF.num], by simp [hF.low], by simp [hF.opn], fun x hx => by
   rcases List.mem_append.1 hx with hx | hx
   ·exact hF.stk x hx
   ·simp at hx; subst hx; exact ⟨h0, h1⟩⟩⟩
  obtain ⟨s2, hrow, hend⟩ : ∃ s2, visitRow (visit rows f) v (row rows v) s1 = some s2 ∧ (if rd s2.low v < rd s2.num v then some s2 else if 50000 < s2.stack.length ∨ 50000 < s2.out.length then none else (match s2.stack.findIdx? (· == v) with
   | some k => some (s2.shut k)
   | none => none)) = some s' := by
   have h := HV.out
   unfold visit at h
   rw [if_neg (by omega)] at h
   have hm : s.meet v = s1 := by rw [hs1, HCC.out]; rfl
   rw [hm] at h
   split at h
   ·exact absurd h (by simp)
   ·rename_i s2 h2; exact ⟨s2, h2, h⟩
  have HROW := Aside0.mk hrow
  have HEND := Aside0.mk hend
  clear hrow hend hs1 HV
  generalize hgW : w5.setCell ⟨Z.bs, 0, none⟩ (.slice (some ⟨g5, 0, none⟩) (s.stack.length + 1) c5) = W6b at HM5 ⊢
  clear hgW k6 k6f HM
  obtain ⟨adr, A0, c0, hA, hrc, hrl, hRr⟩ := at_row hk v h0 (by omega)
  obtain rfl : (⟨B1, 0, none⟩ : Addr) = adr := by injection hA
  clear hA
  rw [add_plain] at hrc
  have hRl : (row rows v).length ≤ 10000 := hlens _ (row_mem h0 (by omega))
  have hRf : ∀ z ∈ row rows v, 0 ≤ z ∧ z < (n : Int) := fun z hz => by have := fits_row hfits v z hz; omega
  obtain ⟨R, hR⟩ : ∃ R, R = row rows v := ⟨_, rfl⟩
  rw [← hR] at hrc hrl hRr hRl hRf HROW
  clear hR
  have kg : W6b.cell? ⟨Z.gb, 0, none⟩ = some (.slice (some ⟨B1, 0, none⟩) n n) := (blk_cell HM5.out.g 0).trans rfl
  have kr := (HM5.out.p _ _ hrc).2
  go_wp2
  clear kg kr hrc
  go_loopg [39] (R.length + 1) (fun m t wr => ∃ (i : Nat) (vs2 vu2 : Value) (sx : TS), t = .int .i64 i ∧ i ≤ R.length ∧ R.length < m + i ∧ Aside0 (TM w wr wK B Z n B1 B2 vs2 vu2 sx) ∧ Aside0 (Fit sx n) ∧ Aside0 (visitRow (visit rows f) v (R.drop i) sx = some s2))
  case atStart => exact ⟨0, _, _, s1, rfl, Nat.zero_le _, by omega, HM5, HF5, HROW⟩
  case round =>
   clear HM5 HF5 HROW
   obtain ⟨i, vs2, vu2, sx, rfl, hi1, hi2, HM, HFx, HR⟩ := hrel
   by_cases hlt : i < R.length
   ·obtain ⟨adi, hei, hci⟩ := Kd.at_int hRr (i : Int) (by omega) (by omega)
    subst hei
    rw [Int.toNat_natCast] at hci
    have hci2 := (HM.out.p _ _ hci).2
    obtain ⟨x, hx⟩ : ∃ x, x = rd R (i : Int) := ⟨_, rfl⟩
    rw [← hx] at hci2
    obtain ⟨hx0, hx1⟩ := hRf x (by rw [hx]; unfold rd; rw [List.getD_eq_getElem?_getD, List.getElem?_eq_getElem (by simpa using hlt)]; exact List.getElem_mem _)
    have HX : Aside0 (visitRow (visit rows f) v (x :: R.drop (i + 1)) sx = some s2) := ⟨by have := HR.out; rw [drop_rd hlt, ← hx] at this; exact this⟩
    have kn : wr.cell? ⟨Z.bn, 0, none⟩ = some (.slice (some ⟨Z.N, 0, none⟩) n n) := (blk_cell HM.out.bn 0).trans rfl
    have kx := ints_cell HM.out.nn x hx0 (by rw [HFx.out.num]; exact hx1)
    have hltD : decide (i < R.length) = true := by simpa using hlt
    have hltI : decide ((i : Int) < (R.length : Int)) = true := by simpa using hlt
    clear hx hci HR
    obtain ⟨m1, rfl⟩ : ∃ m1, gk = m1 + 1 := ⟨gk - 1, by omega⟩
    by_cases hz : rd sx.num x = 0
    ·obtain ⟨sy, hvx, hgo⟩ : ∃ sy, visit rows f x sx = some sy ∧ visitRow (visit rows f) v (R.drop (i + 1)) (sy.lower v (rd sy.low x)) = some s2 := by
      have h := HX.out
      unfold visitRow at h
      rw [if_pos hz] at h
      split at h
      ·rename_i sy h1; exact ⟨sy, h1, h⟩
      ·exact absurd h (by simp)
     have HFy := Aside0.mk (fit_visit hfits hN f x sx sy hx0 hx1 HFx.out hvx)
     have HGo := Aside0.mk hgo
     have hcon := HI.out x sx sy wr vs2 vu2 hx0 hx1 HFx.out HM.out hvx
     unfold Bl.ptrs at hcon
     simp only [List.append_toArray, List.cons_append, List.nil_append] at hcon
     have kfn : wr.cell? ⟨Z.bf, 0, none⟩ = some (.func (.func 46) #[] #[.pointer (some ⟨Z.bc, 0, none⟩), .pointer (some ⟨Z.bn, 0, none⟩), .pointer (some ⟨Z.bl, 0, none⟩), .pointer (some ⟨Z.bo, 0, none⟩), .pointer (some ⟨Z.bs, 0, none⟩), .pointer (some ⟨Z.gb, 0, none⟩), .pointer (some ⟨Z.bf, 0, none⟩), .pointer (some ⟨Z.bu, 0, none⟩)]) := (blk_cell HM.out.f 0).trans rfl
     rw [hz] at kx
     clear hz hvx hgo
     go_upto_region 8 with (go_at_call 46; go_loud (refine hcon.mono ?_); rintro e W6c ⟨rfl, vs3, vu3, hM3⟩; have HM3 := Aside0.mk hM3; clear hM3)
     have HT7 := Aside0.mk (HM3.out.later (below_drew (Below.refl _ _)))
     have q1 : W6c.cell? ⟨Z.bl, 0, none⟩ = some (.slice (some ⟨Z.L, 0, none⟩) n n) := (blk_cell HM3.out.bl 0).trans rfl
     have q3 := ints_cell HM3.out.ll v h0 (by rw [HFy.out.low]; exact h1)
     have q4 := ints_cell HM3.out.ll x hx0 (by rw [HFy.out.low]; exact hx1)
     refine start_ (n := 13) (S := fun w' => w'.cell? ⟨Z.bl, 0, none⟩ = some (.slice (some ⟨Z.L, 0, none⟩) n n) ∧ w'.cell? ⟨Z.bl, 0, none⟩ = some (.slice (some ⟨Z.L, 0, none⟩) n n) ∧ w'.cell? ⟨Z.L, v.toNat, none⟩ = some (.int .i64 (rd sy.low v)) ∧ w'.cell? ⟨Z.L, x.toNat, none⟩ = some (.int .i64 (rd sy.low x))) (ds := [12]) #[false, false, false, false, false, false, false, false, false, false, false, false, false] (by kernel_rfl) rfl rfl ⟨q1, q1, q3, q4⟩ (fun hHeld => ?_); refine with_tabW vi.tab8 vi.bits8 (fun HT_ HW_ => ?_)
     generalize W6c.drew = W7 at HT7 hHeld ⊢
     refine pV 1 52 (bz 13 0x2) HT_.out ?_
     refine pV 3 54 (bz 13 0xa) HT_.out ?_
     refine pV 7 58 (bz 13 0x8a) HT_.out ?_
     refine tV 0 51 (bz 13 0x8b) HT_.out HW_.out hHeld rfl rfl (by rintro w' ⟨s0, s1, s2, s3⟩; go_simp; with_reducible rfl) ?_
     refine tV 2 53 (bz 13 0x8f) HT_.out HW_.out hHeld rfl rfl (by rintro w' ⟨s0, s1, s2, s3⟩; go_simp; with_reducible rfl) ?_
     refine pV 4 55 (bz 13 0x9f) HT_.out ?_
     refine tV 5 56 (bz 13 0xbf) HT_.out HW_.out hHeld rfl rfl (by rintro w' ⟨s0, s1, s2, s3⟩; go_simp; with_reducible rfl) ?_
     refine tV 6 57 (bz 13 0xff) HT_.out HW_.out hHeld rfl rfl (by rintro w' ⟨s0, s1, s2, s3⟩; go_simp; with_reducible rfl) ?_
     refine pV 8 59 (bz 13 0x1ff) HT_.out ?_
     refine tV 9 60 (bz 13 0x3ff) HT_.out HW_.out hHeld rfl rfl (by rintro w' ⟨s0, s1, s2, s3⟩; go_simp; with_reducible rfl) ?_
     refine pV 10 61 (bz 13 0x7ff) HT_.out ?_
     refine pV 11 62 (bz 13 0xfff) HT_.out ?_
     refine last_ (i := 12) (N := none) (bz 13 0x1fff) rfl rfl (one_of HT_.out (by kernel_rfl)) (by decide) (fun K hK => ?_)
     have hz_ : W7.frozen? ⟨Z.L, v.toNat, none⟩ = false := blk_frozen HT7.out.ll _
     have hc_ := hHeld.2.2.1
     refine skip_ (w1 := W7.setCell ⟨Z.L, v.toNat, none⟩ (.int .i64 (min (rd sy.low v) (rd sy.low x)))) (by rfl) rfl ?hrS ?_
     case hrS => first | (go_simp; done) | (go_simp; rfl)
     have HT8 := Aside0.mk (HT7.out.setL hZ v.toNat (min (rd sy.low v) (rd sy.low x)))
     refine hK.out _ _ ?_
     clear hK K hz_ hc_
     refine done_ (done_of HT_.out (by kernel_rfl)) ?_
     go_wp2
     go_roundg m1
     case measure => omega
     case rel => exact ⟨i + 1, _, _, _, by go_num, by omega, by omega, HT8, ⟨HFy.out.lower _ _⟩, HGo⟩
    ·have hzb : (rd sx.num x == 0) = false := by simpa using hz
     have ko : wr.cell? ⟨Z.bo, 0, none⟩ = some (.slice (some ⟨Z.O, 0, none⟩) n n) := (blk_cell HM.out.bo 0).trans rfl
     have kox := bools_cell HM.out.oo x hx0 (by rw [HFx.out.opn]; exact hx1)
     by_cases ho : opnAt sx.opn x = true
     ·have HGo : Aside0 (visitRow (visit rows f) v (R.drop (i + 1)) (sx.lower v (rd sx.num x)) = some s2) := ⟨by have h := HX.out; unfold visitRow at h; rw [if_neg hz, if_pos ho] at h; exact h⟩
      rw [ho] at kox
      clear hz ho
      go_upto_region 10 with (fail)
      have HT7 := Aside0.mk (HM.out.later (below_drew (Below.refl _ _)))
      have q1 : wr.cell? ⟨Z.bl, 0, none⟩ = some (.slice (some ⟨Z.L, 0, none⟩) n n) := (blk_cell HM.out.bl 0).trans rfl
      have q3 := ints_cell HM.out.ll v h0 (by rw [HFx.out.low]; exact h1)
      refine start_ (n := 13) (S := fun w' => w'.cell? ⟨Z.bl, 0, none⟩ = some (.slice (some ⟨Z.L, 0, none⟩) n n) ∧ w'.cell? ⟨Z.bn, 0, none⟩ = some (.slice (some ⟨Z.N, 0, none⟩) n n) ∧ w'.cell? ⟨Z.L, v.toNat, none⟩ = some (.int .i64 (rd sx.low v)) ∧ w'.cell? ⟨Z.N, x.toNat, none⟩ = some (.int .i64 (rd sx.num x))) (ds := [12]) #[false, false, false, false, false, false, false, false, false, false, false, false, false] (by kernel_rfl) rfl rfl ⟨q1, kn, q3, kx⟩ (fun hHeld => ?_); refine with_tabW vi.tab10 vi.bits10 (fun HT_ HW_ => ?_)
      generalize wr.drew = W7 at HT7 hHeld ⊢
      refine pV 1 68 (bz 13 0x2) HT_.out ?_
      refine pV 3 70 (bz 13 0xa) HT_.out ?_
      refine pV 7 74 (bz 13 0x8a) HT_.out ?_
      refine tV 0 67 (bz 13 0x8b) HT_.out HW_.out hHeld rfl rfl (by rintro w' ⟨s0, s1, s2, s3⟩; go_simp; with_reducible rfl) ?_
      refine tV 2 69 (bz 13 0x8f) HT_.out HW_.out hHeld rfl rfl (by rintro w' ⟨s0, s1, s2, s3⟩; go_simp; with_reducible rfl) ?_
      refine pV 4 71 (bz 13 0x9f) HT_.out ?_
      refine tV 5 72 (bz 13 0xbf) HT_.out HW_.out hHeld rfl rfl (by rintro w' ⟨s0, s1, s2, s3⟩; go_simp; with_reducible rfl) ?_
      refine tV 6 73 (bz 13 0xff) HT_.out HW_.out hHeld rfl rfl (by rintro w' ⟨s0, s1, s2, s3⟩; go_simp; with_reducible rfl) ?_
      refine pV 8 75 (bz 13 0x1ff) HT_.out ?_
      refine tV 9 76 (bz 13 0x3ff) HT_.out HW_.out hHeld rfl rfl (by rintro w' ⟨s0, s1, s2, s3⟩; go_simp; with_reducible rfl) ?_
      refine pV 10 77 (bz 13 0x7ff) HT_.out ?_
      refine pV 11 78 (bz 13 0xfff) HT_.out ?_
      refine last_ (i := 12) (N := none) (bz 13 0x1fff) rfl rfl (one_of HT_.out (by kernel_rfl)) (by decide) (fun K hK => ?_)
      have hz_ : W7.frozen? ⟨Z.L, v.toNat, none⟩ = false := blk_frozen HT7.out.ll _
      have hc_ := hHeld.2.2.1
      refine skip_ (w1 := W7.setCell ⟨Z.L, v.toNat, none⟩ (.int .i64 (min (rd sx.low v) (rd sx.num x)))) (by rfl) rfl ?hrS ?_
      case hrS => first | (go_simp; done) | (go_simp; rfl)
      have HT8 := Aside0.mk (HT7.out.setL hZ v.toNat (min (rd sx.low v) (rd sx.num x)))
      refine hK.out _ _ ?_
      clear hK K hz_ hc_
      refine done_ (done_of HT_.out (by kernel_rfl)) ?_
      go_wp2
      go_roundg m1
      case measure => omega
      case rel => exact ⟨i + 1, _, _, _, by go_num, by omega, by omega, HT8, ⟨HFx.out.lower _ _⟩, HGo⟩
     ·have HGo : Aside0 (visitRow (visit rows f) v (R.drop (i + 1)) sx = some s2) := ⟨by have h := HX.out; unfold visitRow at h; rw [if_neg hz, if_neg ho] at h; exact h⟩
      rw [Bool.not_eq_true] at ho
      rw [ho] at kox
      clear hz ho
      go_wp2
      go_roundg m1
      case measure => omega
      case rel => exact ⟨i + 1, _, _, _, by go_num, by omega, by omega, HM, HFx, HGo⟩
   ·obtain rfl : i = R.length := by omega
    have hXe := HR.out
    rw [List.drop_length] at hXe
    unfold visitRow at hXe
    have hsx := Option.some.inj hXe
    subst hsx
    clear hXe HR
    have hltD : decide (R.length < R.length) = false := by simp
    have q1 : wr.cell? ⟨Z.bl, 0, none⟩ = some (.slice (some ⟨Z.L, 0, none⟩) n n) := (blk_cell HM.out.bl 0).trans rfl
    have q2 : wr.cell? ⟨Z.bn, 0, none⟩ = some (.slice (some ⟨Z.N, 0, none⟩) n n) := (blk_cell HM.out.bn 0).trans rfl
    have q3 := ints_cell HM.out.ll v h0 (by rw [HFx.out.low]; exact h1)
    have q4 := ints_cell HM.out.nn v h0 (by rw [HFx.out.num]; exact h1)
    have HT7 := Aside0.mk (HM.out.later (below_drew (Below.refl _ _)))
    go_upto_region 12 with (fail)
    by_cases hlv : rd sx.low v < rd sx.num v
    ·have HE : Aside0 (s' = sx) := ⟨by have := HEND.out; rw [if_pos hlv] at this; exact (Option.some.inj this).symm⟩
     clear HEND
     refine start_ (n := 9) (S := fun w' => w'.cell? ⟨Z.bl, 0, none⟩ = some (.slice (some ⟨Z.L, 0, none⟩) n n) ∧ w'.cell? ⟨Z.bn, 0, none⟩ = some (.slice (some ⟨Z.N, 0, none⟩) n n) ∧ w'.cell? ⟨Z.L, v.toNat, none⟩ = some (.int .i64 (rd sx.low v)) ∧ w'.cell? ⟨Z.N, v.toNat, none⟩ = some (.int .i64 (rd sx.num v))) (ds := []) #[false, false, false, false, false, false, false, false, false] (by kernel_rfl) rfl rfl ⟨q1, q2, q3, q4⟩ (fun hHeld => ?_); refine with_tabW vi.tab12 vi.bits12 (fun HT_ HW_ => ?_)
     generalize wr.drew = W7 at HT7 hHeld ⊢
     refine pV 1 81 (bz 9 0x2) HT_.out ?_
     refine pV 5 85 (bz 9 0x22) HT_.out ?_
     refine tV 0 80 (bz 9 0x23) HT_.out HW_.out hHeld rfl rfl (by rintro w' ⟨s0, s1, s2, s3⟩; go_simp; with_reducible rfl) ?_
     refine pV 2 82 (bz 9 0x27) HT_.out ?_
     refine tV 3 83 (bz 9 0x2f) HT_.out HW_.out hHeld rfl rfl (by rintro w' ⟨s0, s1, s2, s3⟩; go_simp; with_reducible rfl) ?_
     refine tV 4 84 (bz 9 0x3f) HT_.out HW_.out hHeld rfl rfl (by rintro w' ⟨s0, s1, s2, s3⟩; go_simp; with_reducible rfl) ?_
     refine pV 6 86 (bz 9 0x7f) HT_.out ?_
     refine tV 7 87 (bz 9 0xff) HT_.out HW_.out hHeld rfl rfl (by rintro w' ⟨s0, s1, s2, s3⟩; go_simp; with_reducible rfl) ?_
     refine pV 8 88 (bz 9 0x1ff) HT_.out ?_
     refine done_ (done_of HT_.out (by kernel_rfl)) ?_
     go_wp2
     exact bodyPost_ret (results_none rfl _ _ _) rfl ⟨rfl, _, _, by rw [HE.out]; exact HT7.out⟩
    ·obtain ⟨k, hst5, hou5, hk1, hk2, HE⟩ : ∃ k : Nat, sx.stack.length ≤ 50000 ∧ sx.out.length ≤ 50000 ∧ Lib.idxOf sx.stack v = (k : Int) ∧ k < sx.stack.length ∧ Aside0 (s' = sx.shut k) := by
      have h := HEND.out
      rw [if_neg hlv] at h
      split at h
      ·exact absurd h (by simp)
      ·split at h
       ·rename_i k hk
        obtain ⟨h2, h3⟩ := idx_find hk
        exact ⟨k, by omega, by omega, h2, h3, ⟨(Option.some.inj h).symm⟩⟩
       ·exact absurd h (by simp)
     clear HEND
     refine start_ (n := 9) (S := fun w' => w'.cell? ⟨Z.bl, 0, none⟩ = some (.slice (some ⟨Z.L, 0, none⟩) n n) ∧ w'.cell? ⟨Z.bn, 0, none⟩ = some (.slice (some ⟨Z.N, 0, none⟩) n n) ∧ w'.cell? ⟨Z.L, v.toNat, none⟩ = some (.int .i64 (rd sx.low v)) ∧ w'.cell? ⟨Z.N, v.toNat, none⟩ = some (.int .i64 (rd sx.num v))) (ds := []) #[false, false, false, false, false, false, false, false, false] (by kernel_rfl) rfl rfl ⟨q1, q2, q3, q4⟩ (fun hHeld => ?_); refine with_tabW vi.tab12 vi.bits12 (fun HT_ HW_ => ?_)
     generalize wr.drew = W7 at HT7 hHeld ⊢
     refine pV 1 81 (bz 9 0x2) HT_.out ?_
     refine pV 5 85 (bz 9 0x22) HT_.out ?_
     refine tV 0 80 (bz 9 0x23) HT_.out HW_.out hHeld rfl rfl (by rintro w' ⟨s0, s1, s2, s3⟩; go_simp; with_reducible rfl) ?_
     refine pV 2 82 (bz 9 0x27) HT_.out ?_
     refine tV 3 83 (bz 9 0x2f) HT_.out HW_.out hHeld rfl rfl (by rintro w' ⟨s0, s1, s2, s3⟩; go_simp; with_reducible rfl) ?_
     refine tV 4 84 (bz 9 0x3f) HT_.out HW_.out hHeld rfl rfl (by rintro w' ⟨s0, s1, s2, s3⟩; go_simp; with_reducible rfl) ?_
     refine pV 6 86 (bz 9 0x7f) HT_.out ?_
     refine tV 7 87 (bz 9 0xff) HT_.out HW_.out hHeld rfl rfl (by rintro w' ⟨s0, s1, s2, s3⟩; go_simp; with_reducible rfl) ?_
     refine pV 8 88 (bz 9 0x1ff) HT_.out ?_
     refine done_ (done_of HT_.out (by kernel_rfl)) ?_
     clear q1 q2 q3 q4 HM
     obtain ⟨A2, c2, hq2, hc2⟩ := Kd.R_reads HT7.out.st
     obtain ⟨hc2, hC2⟩ := hc2
     subst hq2
     have ks : W7.cell? ⟨Z.bs, 0, none⟩ = some (.slice A2 sx.stack.length c2) := (blk_cell HT7.out.bs 0).trans rfl
     have hcI : Calls Try.prog 47 #[.slice A2 sx.stack.length c2, .int .i64 v] W7 fun e w' => e = .returned (.int .i64 k) ∧ w' = W7 := by
      rw [← hk1]; exact index_row W7 W7 A2 sx.stack.length c2 sx.stack v hC2 (fun _ _ h => h) (by omega)
     clear hk1
     obtain ⟨i0, hi0, _, hsz0, _⟩ := info_parts It.info3
     have hcut := cut_from (P := Try.prog) 26 3 .i64 Try.underlying26 hi0 1 hsz0 A2 sx.stack.length c2 (k : Int) (by omega) (by omega)
     have hcut2 := cut_to (P := Try.prog) 26 3 .i64 Try.underlying26 hi0 A2 sx.stack.length c2 (k : Int) (by omega) (by omega) hc2
     obtain ⟨A8, hA8⟩ : ∃ A8, A8 = (if c2 = (k : Int).toNat then A2 else A2.map (·.add ((k : Int).toNat * 1))) := ⟨_, rfl⟩
     have hC8 : KI.C W7 A8 (sx.stack.drop k).length (sx.stack.drop k) := by
      have h := (Kd.Q_reads' (Kd.Q_drop (Kd.Q_of_R HT7.out.st) (k := k) (by omega))).2.2
      rw [hA8, Int.toNat_natCast]; exact h
     rw [← hA8] at hcut
     rw [Int.toNat_natCast] at hcut hcut2
     clear hA8
     rw [List.length_drop] at hC8
     have hCd := Aside0.mk hC8
     clear hC8 hC2
     have hln : sx.stack.length - k ≤ 1000000 := by omega
     go_upto_region 14 with (go_at_call 47; go_loud (refine hcI.mono ?_); rintro e W8 ⟨rfl, rfl⟩)
     go_upto_region 15 with (go_at_call 48; go_loud (refine (clone_row _ A8 (sx.stack.length - k) (c2 - k) (sx.stack.drop k) hCd.out hln).mono ?_); rintro e W9 ⟨vc, rfl, hr4, hb4⟩; have HR4 := Aside0.mk hr4; have HT8 := Aside0.mk (HT7.out.later hb4); have HB4 := Aside0.mk hb4; clear hr4 hb4)
     have ks4 : W9.cell? ⟨Z.bs, 0, none⟩ = some (.slice A2 sx.stack.length c2) := (blk_cell HT8.out.bs 0).trans rfl
     have ks4f := blk_frozen HT8.out.bs 0
     clear hcut hcI ks hHeld
     go_upto_region 16 with (fail)
     have hob2 : ∀ m : Nat, (Value.slice A2 m c2).ownBlock = (Value.slice A2 sx.stack.length c2).ownBlock := fun m => by cases A2 <;> rfl
     have HT9 : Aside0 (TM w (W9.setCell ⟨Z.bs, 0, none⟩ (.slice A2 k c2)) wK B Z n B1 B2 (.slice A2 k c2) vu2 { sx with stack := sx.stack.take k }) :=
      ⟨HT8.out.push hZ (RowI.of (Kd.R_take HT8.out.st.any (by omega))) (grown_of_below (Below.refl _ _) _) (.inl (hob2 k))⟩
     have hbsB := hZ.lt Z.bs (by simp)
     have hB0 : B ≤ W8.heap.size := HT7.out.sz
     have HOU : Aside0 (Kd.S Tm.KR 26 (W9.setCell ⟨Z.bs, 0, none⟩ (.slice A2 k c2)) B (fun q => (B ≤ q ∧ some q ≠ (Value.slice A2 k c2).ownBlock) ∧ q < W8.heap.size) vu2 sx.out) :=
      ⟨Kd.S_far (Kd.S_below (Kd.S_mono (Kd.S_bound HT7.out.ou) (fun q hq => ⟨by rw [hob2]; exact hq.1, hq.2.2.1⟩)) HB4.out) (fun q hq e => by have := hq.1.1; have e' : q = Z.bs := e; omega) _⟩
     have HRC : Aside0 (RowI (W9.setCell ⟨Z.bs, 0, none⟩ (.slice A2 k c2)) W8.heap.size vc (sx.stack.drop k)) :=
      ⟨HR4.out.move (fun q hq => Below.heap_setCell _ _ _ _ (fun e => by have := Kd.R_base HR4.out q hq; have e' : q = Z.bs := e; omega))⟩
     have HST0 : Aside0 (∀ q, (Value.slice A2 k c2).ownBlock = some q → q < W8.heap.size) := ⟨fun q hq => Kd.R_lt HT7.out.st q (by rw [← hob2 k]; exact hq)⟩
     have hclsF : ∀ z ∈ sx.stack.drop k, 0 ≤ z ∧ z < (n : Int) := fun z hz => HFx.out.stk z (List.mem_of_mem_drop hz)
     have hclsl : (sx.stack.drop k).length ≤ 50000 := by rw [List.length_drop]; omega
     clear HT7 HT8 HR4 HB4 ks4 ks4f hob2 hcut2 hCd
     generalize W9.setCell ⟨Z.bs, 0, none⟩ (.slice A2 k c2) = W10b at HT9 HOU HRC ⊢
     generalize W8.heap.size = S0 at HOU HRC HST0 hB0
     obtain ⟨cls, hcls⟩ : ∃ cls, cls = sx.stack.drop k := ⟨_, rfl⟩
     rw [← hcls] at HRC hclsF hclsl
     have HCLS := Aside0.mk hcls
     clear hcls
     obtain ⟨Ac, cx, hqc⟩ := Kd.R_slice HRC.out
     subst hqc
     go_wp2
     go_loopg [101] (cls.length + 1) (fun m t wr2 => ∃ (j : Nat) (op : List Bool), t = .int .i64 j ∧ j ≤ cls.length ∧ cls.length < m + j ∧ Aside0 (TM w wr2 wK B Z n B1 B2 (.slice A2 k c2) vu2 { sx with stack := sx.stack.take k, opn := op }) ∧ Aside0 (op.length = n ∧ (cls.drop j).foldl (fun o x => o.set x.toNat false) op = cls.foldl (fun o x => o.set x.toNat false) sx.opn) ∧ Aside0 (RowI wr2 S0 (.slice Ac cls.length cx) cls ∧ Kd.S Tm.KR 26 wr2 B (fun q => (B ≤ q ∧ some q ≠ (Value.slice A2 k c2).ownBlock) ∧ q < S0) vu2 sx.out))
     case atStart => exact ⟨0, sx.opn, rfl, Nat.zero_le _, by omega, HT9, ⟨HFx.out.opn, rfl⟩, ⟨HRC.out, HOU.out⟩⟩
     case round =>
      clear HT9 HRC HOU
      obtain ⟨j, op, rfl, hj1, hj2, HT, HO, HRO⟩ := hrel
      by_cases hlt2 : j < cls.length
      ·obtain ⟨adc, hec, hcc⟩ := Kd.at_int (Kd.R_reads' HRO.out.1).2.2 (j : Int) (by omega) (by omega)
       subst hec
       rw [Int.toNat_natCast] at hcc
       obtain ⟨x, hx⟩ : ∃ x, x = rd cls (j : Int) := ⟨_, rfl⟩
       rw [← hx] at hcc
       obtain ⟨hx0, hx1⟩ := hclsF x (by rw [hx]; unfold rd; rw [List.getD_eq_getElem?_getD, List.getElem?_eq_getElem (by simpa using hlt2)]; exact List.getElem_mem _)
       have HX2 : Aside0 ((cls.drop (j + 1)).foldl (fun o x => o.set x.toNat false) (op.set x.toNat false) = cls.foldl (fun o x => o.set x.toNat false) sx.opn) := ⟨by have := HO.out.2; rw [drop_rd hlt2, ← hx] at this; exact this⟩
       have hol := HO.out.1
       have ko : wr.cell? ⟨Z.bo, 0, none⟩ = some (.slice (some ⟨Z.O, 0, none⟩) n n) := (blk_cell HT.out.bo 0).trans rfl
       have kox := bools_cell HT.out.oo x hx0 (by rw [hol]; exact hx1)
       have kof := blk_frozen HT.out.oo x.toNat
       have hltD2 : decide (j < cls.length) = true := by simpa using hlt2
       have hltI2 : decide ((j : Int) < (cls.length : Int)) = true := by simpa using hlt2
       have HOL := Aside0.mk hol
       clear hx HO hol
       obtain ⟨m2, rfl⟩ : ∃ m2, gk = m2 + 1 := ⟨gk - 1, by omega⟩
       go_wp2
       go_roundg m2
       case measure => omega
       case rel =>
        have hOB := hZ.lt Z.O (by simp)
        exact ⟨j + 1, op.set x.toNat false, by go_num, by omega, by omega, ⟨HT.out.setO hZ x.toNat false⟩, ⟨by rw [List.length_set]; exact HOL.out, HX2.out⟩,
         ⟨HRO.out.1.move (fun q hq => Below.heap_setCell _ _ _ _ (fun e => by have := Kd.R_base HRO.out.1 q hq; have e' : q = Z.O := e; omega)), Kd.S_far HRO.out.2 (fun q hq e => by have := hq.1.1; have e' : q = Z.O := e; omega) _⟩⟩
      ·obtain rfl : j = cls.length := by omega
       have hXe := HO.out.2
       rw [List.drop_length] at hXe
       have HX3 : Aside0 (op = cls.foldl (fun o x => o.set x.toNat false) sx.opn) := ⟨hXe⟩
       clear hXe HO
       have hltD2 : decide (cls.length < cls.length) = false := by simp
       go_upto_region 22 with (go_at_call 45; go_loud (refine (sort_row wr S0 _ cls HRO.out.1 (by omega)).mono ?_); rintro e W11 ⟨rfl, hr5, hg5⟩; have HR5 := Aside0.mk hr5; have HG5 := Aside0.mk hg5; clear hr5 hg5)
       have hvc : ∀ q, (Value.slice Ac cls.length cx).ownBlock = some q → S0 ≤ q := fun q hq => Kd.R_base HRO.out.1 q hq
       have HTb := Aside0.mk (HT.out.big hZ HG5.out hvc hB0 HST0.out HRO.out.2)
       have hS11 : Kd.S Tm.KR 26 W11 B (fun q => (B ≤ q ∧ some q ≠ (Value.slice A2 k c2).ownBlock) ∧ ¬ (some q = (Value.slice Ac cls.length cx).ownBlock)) vu2 sx.out :=
        Kd.S_mono (Kd.S_grown HRO.out.2 HG5.out (fun q hq e => by have := hvc q e.symm; have := hq.2; omega)) (fun q hq => ⟨hq.1, fun e => by have := hvc q e.symm; have := hq.2; omega⟩)
       have hvu : ∀ q, vu2.ownBlock = some q → B ≤ q ∧ q < S0 := fun q hq => by have := (Kd.S_R HRO.out.2).1 q hq; exact ⟨this.1.1, this.2⟩
       have hokp : ∀ q, some q = (Value.slice Ac cls.length cx).ownBlock → (B ≤ q ∧ some q ≠ (Value.slice A2 k c2).ownBlock) ∧ some q ≠ vu2.ownBlock := fun q hq => by
        have h1 := hvc q hq.symm
        exact ⟨⟨by omega, fun e => by have := HST0.out q e.symm; omega⟩, fun e => by have := (hvu q e.symm).2; omega⟩
       have hfr : ∀ q, W11.heap.size ≤ q → B ≤ q ∧ some q ≠ (Value.slice A2 k c2).ownBlock := fun q hq => ⟨by have := HTb.out.sz; omega, fun e => by have := Kd.R_lt HTb.out.st q e.symm; omega⟩
       have hMp : Tm.KR.M W11 B (fun q => some q = (Value.slice Ac cls.length cx).ownBlock) (sortI cls) [.slice Ac cls.length cx] := Kd.M_row (Kd.R_lower HR5.out hB0)
       have HSA := Aside0.mk (And.intro hS11 (And.intro hokp (And.intro hfr hMp)))
       have hub : some Z.bu ≠ vu2.ownBlock := fun e => by have := (hvu _ e.symm).1; have := hZ.lt Z.bu (by simp); omega
       have HUB := Aside0.mk hub
       have ku : W11.cell? ⟨Z.bu, 0, none⟩ = some vu2 := (blk_cell HTb.out.bu 0).trans rfl
       have hol5 : (sx.out.length + 1) * 24 ≤ 140737488355328 := by omega
       have HZ5 := Aside0.mk HTb.out.sz
       clear hvc hS11 hvu hokp hfr hMp hub HT HRO HR5 HG5
       go_wp2_with ((with_reducible refine gate_builtin (b := .append) (xs := #[.tmp 111, .tmp 113]) rfl ?_); at_builtin; go_loud (refine Kd.S_append Tm.KR (w0 := W11) B rfl (.tmp 111) (.tmp 113) 44 26 (.slice none 0 0) 24 rfl Try.underlying44 Ng.info26 rfl (by decide) (by omega) vu2 sx.out (sortI cls) [.slice Ac cls.length cx] (fun q => B ≤ q ∧ some q ≠ (Value.slice A2 k c2).ownBlock) (fun q => some q = (Value.slice Ac cls.length cx).ownBlock) rfl rfl HSA.out.2.2.2 HSA.out.2.1 HSA.out.2.2.1 HSA.out.1 ?aB ?aS hol5 ?_; (case aB => exact ⟨rfl, rfl, rfl, Nat.le_refl _, fun _ _ => rfl⟩); (case aS => exact HZ5.out)); intro v5 w5 ho hb hg hat; obtain ⟨g7, c7, rfl, _, _, _⟩ := Kd.S_form ho (by simp); have k6 := (blk_cell (blk_grown HTb.out.bu hg HUB.out) 0).trans rfl; have k6f := blk_frozen (blk_grown HTb.out.bu hg HUB.out) 0; have HT12 := Aside0.mk (HTb.out.outs hZ ho hg); clear ho hb hg hat)
       go_end0
       exact ⟨rfl, _, _, by rw [HE.out]; unfold TS.shut; rw [← HCLS.out, ← HX3.out]; have h := HT12.out; rw [show (sx.out ++ [sortI cls]).length = sx.out.length + 1 from by simp] at h; exact h⟩
end Go.Proofs.Ytlldjinejckbaaa.Vi

end
section
namespace Go.Proofs.Ytlldjinejckbaaa.Sc
open Go Go.RowKit Go.Sort Go.Shelf Go.Proofs.YtlldjinejckbaaaW.PrintWords Go.Proofs.YtlldjinejckbaaaW.PrintLast Go.Proofs.YtlldjinejckbaaaW.PrintMore
open Go.Proofs.Ytlldjinejckbaaa.It Go.Proofs.Ytlldjinejckbaaa.Mod Go.Proofs.Ytlldjinejckbaaa.Lc Go.Proofs.Ytlldjinejckbaaa.Cm Go.Proofs.Ytlldjinejckbaaa.Tj
set_option linter.unusedVariables false
set_option linter.unusedSimpArgs false
section
variable {α : Type} [Inhabited α] {enc : α → Value}
theorem heap_sortedG {w : World} {g n : Nat} {os : Array Obj} {cur : Array Value} {e : TypeId} {fr : Nat × Nat} (d : Array α) (hb : w.heap[g]? = some (.cells cur e fr)) :
  (grow (putRow enc (Sort.ahead w n) g 0 d) os).heap[g]? = some (.cells (putCells enc 0 d cur) e fr) := by
 have hg : g < w.heap.size := (Array.getElem?_eq_some_iff.1 hb).1
 rw [heap_grow_old _ _ (by simpa using hg)]
 simp [putRow, mapBlock, Sort.ahead, Array.getElem?_modify, hb, onCells]
theorem grownBy_sortedG {w : World} {g n : Nat} {os : Array Obj} (d : Array α) : w.grownBy (grow (putRow enc (Sort.ahead w n) g 0 d) os) (some g) := by
 refine ⟨rfl, rfl, rfl, by simp, fun k hk hne => ?_⟩
 rw [heap_grow_old _ _ (by simpa using hk)]
 have : g ≠ k := fun e => hne (by rw [e])
 simp [putRow, mapBlock, Sort.ahead, Array.getElem?_modify, this]
theorem take_putCellsG (cur : Array Value) (ts : List α) (h : ts.length ≤ cur.size) : (putCells enc 0 ts.toArray cur).toList.take ts.length = ts.map enc := by
 apply List.ext_getElem?
 intro j
 by_cases hj : j < ts.length
 ·rw [List.getElem?_take_of_lt hj, Array.getElem?_toList]
  simp [putCells, hj, show j < cur.size by omega]
 ·rw [List.getElem?_take_eq_none (by omega), List.getElem?_eq_none (by simp; omega)]
end
def KRr : Kd (List Int) := Kd.slice 3 (Kd.int .i64)
theorem swo_first {m : Nat} (g : Fin m → Int) (hb : ∀ i, 0 ≤ g i ∧ g i < 100000) : SWO (ltOf fun i j : Fin m => wrap64 (g i - g j)) := by
 have h : ∀ i j, ltOf (fun i j : Fin m => wrap64 (g i - g j)) i j = decide (g i < g j) := fun i j => by
  unfold ltOf
  have h1 := hb i
  have h2 := hb j
  have e : wrap64 (g i - g j) = g i - g j := by unfold wrap64; omega
  rw [decide_eq_decide]
  show wrap64 (g i - g j) < 0 ↔ _
  rw [e]
  omega
 refine ⟨fun x => by rw [h]; simp, fun x y z => by rw [h, h, h]; simp only [decide_eq_true_eq]; omega, fun x y z => by rw [h, h, h]; simp only [decide_eq_false_iff_not]; omega⟩
theorem sort_classes (W : World) (base : Nat) (v : Value) (xs : List (List Int)) (ok : Nat → Prop) (h : Kd.S KRr 26 W base ok v xs) (hne : ∀ c ∈ xs, c ≠ []) (hb : ∀ c ∈ xs, 0 ≤ rd c 0 ∧ rd c 0 < 100000)
  (hnd : (xs.map (rd · 0)).Nodup) (hs : xs.length ≤ 100000) :
  Calls Try.prog 49 #[v, .func (.func 50) #[] #[]] W fun e w' => e = .returned (.tuple #[]) ∧ Kd.S KRr 26 w' base ok v (xs.mergeSort byFirst) ∧ W.grownBy w' v.ownBlock := by
 obtain ⟨f, h0, inner, ho, hr⟩ := h
 rw [List.length_zipIdx] at ho
 rcases ho.2 with ⟨rfl, hn⟩ | ⟨g, cap, cur, rfl, hg, hbk, c1, c2, c3, c4⟩
 ·have : xs = [] := List.length_eq_zero_iff.1 hn
  subst this
  have hc := AnyF.slices_SortFunc_none Try.laysF06_f49 none 0 (.func (.func 50) #[] #[]) W
  refine Calls.mono (P := Try.prog) (f := 49) hc ?_
  rintro e w' ⟨rfl, rfl⟩
  exact ⟨rfl, by simpa using Kd.S_nil KRr 26 w' base ok, grown_of_below (Below.refl _ _) _⟩
 ·have hm0 : inner.length = xs.length := by have := hr.1; rw [List.length_zipIdx] at this; rw [this]; show xs.length * 1 = _; omega
  by_cases hx0 : xs = []
  ·subst hx0
   have hc := AnyF.slices_SortFunc_none Try.laysF06_f49 (some ⟨g, 0, none⟩) cap (.func (.func 50) #[] #[]) W
   refine Calls.mono (P := Try.prog) (f := 49) hc ?_
   rintro e w' ⟨rfl, rfl⟩
   exact ⟨rfl, by rw [show ([] : List (List Int)).mergeSort byFirst = [] from by simp]; exact ⟨f, h0, inner, ho, hr⟩, grown_of_below (Below.refl _ _) _⟩
  have hpos : 0 < xs.length := List.length_pos_iff.2 hx0
  obtain ⟨m, hm⟩ : ∃ m, m = xs.length := ⟨_, rfl⟩
  haveI : Inhabited (Fin m) := ⟨⟨0, by omega⟩⟩
  obtain ⟨enc, henc⟩ : ∃ enc : Fin m → Value, enc = fun i => inner.getD i.1 (.slice none 0 0) := ⟨_, rfl⟩
  have hel : ∀ i : Fin m, KRr.M W base (fun k => (ok k ∧ some k ≠ (Value.slice (some ⟨g, 0, none⟩) xs.length cap).ownBlock) ∧ f k = i.1) (xs.getD i.1 []) [enc i] := fun i => by
   have hi : i.1 < xs.length := by rw [← hm]; exact i.2
   have h2 := hr.2 i.1 (xs[i.1], i.1) (by rw [List.getElem?_zipIdx, List.getElem?_eq_getElem hi]; simp)
   have e1 : (inner.drop (i.1 * 1)).take 1 = [enc i] := by
    rw [henc, Nat.mul_one, List.drop_eq_getElem_cons (by omega)]
    simp only [List.getD_eq_getElem?_getD, List.getElem?_eq_getElem (show i.1 < inner.length by omega), Option.getD_some]
    rfl
   have e2 : xs.getD i.1 [] = xs[i.1] := by rw [List.getD_eq_getElem?_getD, List.getElem?_eq_getElem hi]; rfl
   rw [e2, ← e1]
   exact h2
  have hone : OneCell enc := fun i => by
   obtain ⟨u, hu, hR⟩ := hel i
   obtain ⟨A, c, hq⟩ := Kd.R_slice hR
   injection hu with hu
   rw [hu, hq]
   rfl
  have hmem : ∀ i : Fin m, xs.getD i.1 [] ∈ xs := fun i => by
   have hi : i.1 < xs.length := by rw [← hm]; exact i.2
   rw [List.getD_eq_getElem?_getD, List.getElem?_eq_getElem hi]; exact List.getElem_mem _
  obtain ⟨gf, hgf⟩ : ∃ gf : Fin m → Int, gf = fun i => rd (xs.getD i.1 []) 0 := ⟨_, rfl⟩
  have hgb : ∀ i, 0 ≤ gf i ∧ gf i < 100000 := fun i => by rw [hgf]; exact hb _ (hmem i)
  have hwrap : ∀ i j, wrap64 (gf i - gf j) = gf i - gf j := fun i j => by have := hgb i; have := hgb j; unfold wrap64; omega
  obtain ⟨d, hd⟩ : ∃ d : Array (Fin m), d = (List.finRange m).toArray := ⟨_, rfl⟩
  have hdm : d.size = m := by rw [hd]; simp
  have hdj : ∀ j (hj : j < m), d[j]! = ⟨j, hj⟩ := fun j hj => by rw [getElem!_pos d j (by omega)]; subst hd; simp
  have hH : Holds enc W g 0 d := fun j hj => by
   have hj' : j < m := by omega
   rw [hdj j hj', henc]
   refine ⟨?_, by simp [World.frozen?, hbk]⟩
   have h1 : (cur.toList.take inner.length)[j]? = inner[j]? := by rw [hm0]; have := c4; rw [show xs.length * (Kd.tag f KRr).sz = xs.length from Nat.mul_one _] at this; rw [this]
   rw [List.getElem?_take_of_lt (by omega)] at h1
   simp only [World.cell?, hbk, Nat.zero_add]
   simp only [Option.isSome_none, Bool.false_eq_true, if_false]
   rw [← Array.getElem?_toList, h1, List.getD_eq_getElem?_getD, List.getElem?_eq_getElem (by omega)]
   rfl
  have hcmp : CmpLays1 Try.prog 50 #[] enc (fun i j => wrap64 (gf i - gf j)) g 0 d.size W := fun mm os dk hs i j => by
   have hgr := grownBy_sortedG (enc := enc) (w := W) (g := g) (n := mm) (os := os) dk
   have key : ∀ i : Fin m, ∃ a n c, enc i = .slice (some a) n c ∧ 0 < n ∧ (grow (putRow enc (Sort.ahead W mm) g 0 dk) os).cell? a = some (.int .i64 (gf i)) := fun i => by
    obtain ⟨u, hu, hR⟩ := hel i
    obtain ⟨A, c, hq, hle, hC⟩ := Kd.R_reads hR
    injection hu with hu
    have hpl : 0 < (xs.getD i.1 []).length := List.length_pos_iff.2 (hne _ (hmem i))
    obtain ⟨ad, hA, hc⟩ := Kd.at_int hC 0 (by omega) (by omega)
    subst hA
    have hc0 : W.cell? ad = some (.int .i64 (gf i)) := by
     rw [Int.toNat_zero, Addr.add_zero'] at hc
     rw [hgf]; exact hc
    refine ⟨ad, _, c, by rw [hu]; exact hq, hpl, ?_⟩
    have hlt := World.block_lt_of_cell? _ _ hc0
    have hne2 : ad.block ≠ g := fun e => by
     have := hR.1 ad.block (by rw [hq]; rfl)
     exact this.1.2 (by rw [e]; rfl)
    exact (World.cell?_of_block (hgr.block _ hlt (fun e => hne2 (Option.some.inj e)))).trans hc0
   obtain ⟨a, n1, k1, e1, p1, q1⟩ := key i
   obtain ⟨b, n2, k2, e2, p2, q2⟩ := key j
   show Calls Try.prog 50 (#[enc i, enc j] ++ #[]) _ _
   rw [e1, e2]
   refine Calls.mono (first_calls a b n1 n2 k1 k2 (gf i) (gf j) p1 p2 _ q1 q2) ?_
   rintro e w' ⟨rfl, q, rfl⟩
   exact ⟨rfl, q, #[], by rw [grow_empty]⟩
  have hnd2 : ∀ i j : Fin m, gf i = gf j → i = j := fun i j hij => by
   have hi : i.1 < xs.length := by rw [← hm]; exact i.2
   have hj : j.1 < xs.length := by rw [← hm]; exact j.2
   apply Fin.ext
   have hp := List.pairwise_iff_getElem.1 hnd
   have e1 : ∀ k (hk : k < xs.length), (xs.map (rd · 0))[k]'(by simpa using hk) = rd (xs.getD k []) 0 := fun k hk => by
    rw [List.getElem_map, List.getD_eq_getElem?_getD, List.getElem?_eq_getElem hk]; rfl
   rw [hgf] at hij
   rcases Nat.lt_trichotomy i.1 j.1 with hlt | heq | hlt
   ·have := hp i.1 j.1 (by simpa using hi) (by simpa using hj) hlt
    rw [e1 _ hi, e1 _ hj] at this
    exact absurd hij this
   ·exact heq
   ·have := hp j.1 i.1 (by simpa using hj) (by simpa using hi) hlt
    rw [e1 _ hi, e1 _ hj] at this
    exact absurd hij.symm this
  have hT : ∀ i j : Fin m, ltOf (fun i j : Fin m => wrap64 (gf i - gf j)) i j = false → ltOf (fun i j : Fin m => wrap64 (gf i - gf j)) j i = false → i = j := fun i j h1 h2 => by
   unfold ltOf at h1 h2
   rw [decide_eq_false_iff_not] at h1 h2
   simp only [hwrap] at h1 h2
   exact hnd2 i j (by omega)
  have hcon := Any.slices_SortFunc_total Try.laysF6_f49 enc hone (fun i j => wrap64 (gf i - gf j)) (swo_first gf hgb) 50 #[] g 0 cap d W (enters_of Try.func50 (by kernel_rfl) rfl) hcmp hH (Array.getElem?_eq_some_iff.1 hbk).1 (by omega) hT
  have hsl : (Value.slice (some ⟨g, 0, none⟩) m cap) = .slice (some ⟨g, 0, none⟩) xs.length cap := by rw [hm]
  rw [hdm, hsl] at hcon
  refine Calls.mono (P := Try.prog) (f := 49) hcon ?_
  rintro e w' ⟨rfl, n, os, rfl⟩
  have hgr := grownBy_sortedG (enc := enc) (w := W) (g := g) (n := n) (os := os) (d.toList.mergeSort fun x y => !(ltOf fun i j : Fin m => wrap64 (gf i - gf j)) y x).toArray
  refine ⟨rfl, ?_, hgr⟩
  obtain ⟨ts, hts⟩ : ∃ ts, ts = d.toList.mergeSort fun x y => !(ltOf fun i j : Fin m => wrap64 (gf i - gf j)) y x := ⟨_, rfl⟩
  have hperm : ts.Perm (List.finRange m) := by rw [hts, hd]; exact List.mergeSort_perm _ _
  have htl : ts.length = m := by rw [hperm.length_eq]; simp
  have htn : ts.Nodup := hperm.nodup_iff.2 (List.nodup_finRange m)
  have hys : xs.mergeSort byFirst = ts.map fun i => xs.getD i.1 [] := by
   rw [hts, hd]
   rw [List.map_mergeSort (s := byFirst)]
   ·congr 1
    apply List.ext_getElem
    ·simp [hm]
    ·intro j h1 h2
     simp [List.getD_eq_getElem?_getD, List.getElem?_eq_getElem h1]
   ·intro i _ j _
    show (!decide (wrap64 (gf j - gf i) < 0)) = _
    rw [hwrap, show byFirst (xs.getD i.1 []) (xs.getD j.1 []) = decide (gf i ≤ gf j) from by rw [hgf]; rfl]
    by_cases hc : gf i ≤ gf j
    ·rw [decide_eq_true hc, decide_eq_false (by omega)]; rfl
    ·rw [decide_eq_false hc, decide_eq_true (by omega)]; rfl
  rw [hys, ← hts]
  obtain ⟨f', hf'⟩ : ∃ f' : Nat → Nat, f' = fun k => if h : f k < m then ts.idxOf ⟨f k, h⟩ else 0 := ⟨_, rfl⟩
  rw [← hts] at hgr
  refine ⟨f', h0, ts.map enc, ?_, by rw [List.length_map, List.length_zipIdx, List.length_map]; exact (Nat.mul_one _).symm, ?_⟩
  ·rw [List.length_zipIdx, List.length_map, htl]
   refine ⟨by rw [List.length_map, htl]; exact (Nat.mul_one _).symm, .inr ⟨g, cap, _, by rw [hm], hg, heap_sortedG _ hbk, by omega, c2, by rw [show cap * (Kd.tag f' KRr).sz = cur.size from c3.symm]; simp [putCells], ?_⟩⟩
   rw [show m * (Kd.tag f' KRr).sz = ts.length from by rw [htl]; exact Nat.mul_one _]
   have hcs : cur.size = cap := by rw [c3]; exact Nat.mul_one _
   exact take_putCellsG cur ts (by omega)
  ·intro j p hj
   rw [List.getElem?_zipIdx, Nat.zero_add] at hj
   obtain ⟨x, hx, rfl⟩ := Option.map_eq_some_iff.1 hj
   rw [List.getElem?_map] at hx
   obtain ⟨i, hi, rfl⟩ := Option.map_eq_some_iff.1 hx
   obtain ⟨hjl, hji⟩ := List.getElem?_eq_some_iff.1 hi
   have e1 : ((ts.map enc).drop (j * 1)).take 1 = [enc i] := by
    rw [Nat.mul_one, List.drop_eq_getElem_cons (by simpa using hjl)]
    simp [hji]
   have h2 := Kd.M_grown (hel i) hgr (fun k hk e => hk.1.2 (by rw [e]; rfl))
   show (Kd.tag f' KRr).M _ base _ _ (((ts.map enc).drop (j * 1)).take 1)
   rw [e1]
   refine KRr.M_mono (fun k hk => ⟨hk.1, ?_⟩) h2
   rw [hf']
   have hk2 : f k = i.1 := hk.2
   have hlt : f k < m := by rw [hk2]; exact i.2
   simp only [dif_pos hlt]
   have : (⟨f k, hlt⟩ : Fin m) = ts[j] := by rw [hji]; exact Fin.ext hk2
   rw [this]
   exact htn.idxOf_getElem j hjl
end Go.Proofs.Ytlldjinejckbaaa.Sc

end
section
namespace Go.Proofs.Ytlldjinejckbaaa.Co
open Go Go.RowKit Go.Proofs.YtlldjinejckbaaaW.PrintWords Go.Proofs.YtlldjinejckbaaaW.PrintLast Go.Proofs.YtlldjinejckbaaaW.PrintMore
open Go.Proofs.Ytlldjinejckbaaa.It Go.Proofs.Ytlldjinejckbaaa.Mod Go.Proofs.Ytlldjinejckbaaa.Gs Go.Proofs.Ytlldjinejckbaaa.Ng Go.Proofs.Ytlldjinejckbaaa.Rc Go.Proofs.Ytlldjinejckbaaa.Lb Go.Proofs.Ytlldjinejckbaaa.Lc Go.Proofs.Ytlldjinejckbaaa.Gi Go.Proofs.Ytlldjinejckbaaa.Cy Go.Proofs.Ytlldjinejckbaaa.Ins Go.Proofs.Ytlldjinejckbaaa.Tj Go.Proofs.Ytlldjinejckbaaa.Tm Go.Proofs.Ytlldjinejckbaaa.Vi Go.Proofs.Ytlldjinejckbaaa.Sc Go.Proofs.Ytlldjinejckbaaa.PD
set_option linter.unusedVariables false
set_option linter.unusedSimpArgs false
structure Two (W wc : World) (bn bl N L n : Nat) : Prop where
 hn : wc.heap[bn]? = some (.cells #[.slice (some ⟨N, 0, none⟩) n n] 26 (0, 0))
 hl : wc.heap[bl]? = some (.cells #[.slice (some ⟨L, 0, none⟩) n n] 26 (0, 0))
 nN : wc.heap[N]? = some (.cells (madeCells #[.int .i64 0] n) 3 (0, 0))
 lL : wc.heap[L]? = some (.cells (madeCells #[.int .i64 0] n) 3 (0, 0))
 ne1 : N ≠ L
 ne2 : bn ≠ bl
 b1 : W.heap.size ≤ bn
 b2 : W.heap.size ≤ bl
 b3 : W.heap.size ≤ N
 b4 : W.heap.size ≤ L
 be : Below W.heap.size W wc
theorem alloc6 (w : World) (o0 o1 o2 o3 o4 o5 : Obj) : ∀ w', w' = (((((w.alloc o0).alloc o1).alloc o2).alloc o3).alloc o4).alloc o5 → w'.heap[w.heap.size]? = some o0 ∧ w'.heap[w.heap.size + 1]? = some o1 ∧ w'.heap[w.heap.size + 1 + 1]? = some o2 ∧
  w'.heap[w.heap.size + 1 + 1 + 1]? = some o3 ∧ w'.heap[w.heap.size + 1 + 1 + 1 + 1]? = some o4 ∧ w'.heap[w.heap.size + 1 + 1 + 1 + 1 + 1]? = some o5 ∧ Below w.heap.size w w' ∧ w'.heap.size = w.heap.size + 6 := by
 rintro w' rfl
 have a0 := blk_new w o0
 have a1 := blk_new (w.alloc o0) o1
 have a2 := blk_new ((w.alloc o0).alloc o1) o2
 have a3 := blk_new (((w.alloc o0).alloc o1).alloc o2) o3
 have a4 := blk_new ((((w.alloc o0).alloc o1).alloc o2).alloc o3) o4
 have a5 := blk_new (((((w.alloc o0).alloc o1).alloc o2).alloc o3).alloc o4) o5
 simp only [World.size_alloc] at a1 a2 a3 a4 a5
 exact ⟨blk_alloc (blk_alloc (blk_alloc (blk_alloc (blk_alloc a0 _) _) _) _) _, blk_alloc (blk_alloc (blk_alloc (blk_alloc a1 _) _) _) _, blk_alloc (blk_alloc (blk_alloc a2 _) _) _, blk_alloc (blk_alloc a3 _) _, blk_alloc a4 _, a5,
  below_alloc (below_alloc (below_alloc (below_alloc (below_alloc (below_alloc (Below.refl _ _) _) _) _) _) _) _, by simp⟩
theorem madeB (n : Nat) : madeCells #[(.bool false : Value)] n = ((List.replicate n false).map Value.bool).toArray := by
 apply Array.ext
 ·simp [madeCells]
 ·intro i h1 h2
  simp [madeCells, Nat.mod_one]
set_option maxHeartbeats 4000000 in
set_option maxRecDepth 100000 in
theorem Components_calls (n : Nat) (hn : n ≤ 1000) (A1 : Option Addr) (c1 : Nat) (l1 : List S55) (r : List (List Int)) (w : World) (hr1 : Kd.C k55 w A1 l1.length l1) (hc1 : l1.length ≤ c1) (hl : l1.length ≤ 10000)
  (hv : ∀ e ∈ l1, 0 ≤ e.f0 ∧ e.f0 < n ∧ 0 ≤ e.f1 ∧ e.f1 < n) (h : compsOf (tidy (built n l1 true)) n = some r) :
  Calls Try.prog 27 #[.int .i64 n, .slice A1 l1.length c1] w fun e w' => ∃ v, e = .returned v ∧ Kd.S KRr 26 w' w.heap.size (fun _ => True) v r ∧ Below w.heap.size w w' := by
 have HH := Aside0.mk h
 clear h
 have hmk := print_make_int (P := Try.prog) 26 3 (.int .i64 0) 8 Try.underlying26 It.info3 rfl (by omega) (n : Int) (by omega) (by simp; omega)
 have hmkb := print_make_int (P := Try.prog) 49 4 (.bool false) 1 Try.underlying49 info4 rfl (by omega) (n : Int) (by omega) (by simp; omega)
 rw [Int.toNat_natCast] at hmk hmkb
 go_enter Try.func27, Try.ntmps27
 go_upto_region 2 with (go_at_call 44; refine (newGraph_calls n hn A1 c1 l1 _ hr1 hc1 hl hv).mono ?_; rintro e W1 ⟨B1, B2, rfl, ⟨wK, hp, hk1, hk2⟩, hb⟩; have HP := Aside0.mk hp; have HK := Aside0.mk (And.intro hk1 hk2); have HB := Aside0.mk hb; clear hp hk1 hk2 hb)
 have hG : Aside0 ((W1.alloc (.cells #[.slice (some ⟨B1, 0, none⟩) n n, .slice (some ⟨B2, 0, none⟩) n n] 73)).heap[W1.heap.size]? = some (.cells #[.slice (some ⟨B1, 0, none⟩) n n, .slice (some ⟨B2, 0, none⟩) n n] 73 (0, 0)) ∧ Below W1.heap.size W1 (W1.alloc (.cells #[.slice (some ⟨B1, 0, none⟩) n n, .slice (some ⟨B2, 0, none⟩) n n] 73)) ∧ (W1.alloc (.cells #[.slice (some ⟨B1, 0, none⟩) n n, .slice (some ⟨B2, 0, none⟩) n n] 73)).heap.size = W1.heap.size + 1) :=
  ⟨blk_new _ _, below_alloc (Below.refl _ _) _, by simp⟩
 generalize W1.alloc (.cells #[.slice (some ⟨B1, 0, none⟩) n n, .slice (some ⟨B2, 0, none⟩) n n] 73) = W2 at hG ⊢
 have HVL := Aside0.mk hv
 clear hmkb hr1 hv
 go_cut [6, 7] (fun v6 v7 wc => ∃ (bn bl N L : Nat), v6 = .pointer (some ⟨bn, 0, none⟩) ∧ v7 = .pointer (some ⟨bl, 0, none⟩) ∧ Aside0 (Two W2 wc bn bl N L n))
 case first =>
  go_region
  all_goals
   go_wp2
   go_meet
   case rel =>
    obtain ⟨h0, h1, h2, h3, hb⟩ := alloc4 W2 _ _ _ _
    refine ⟨_, _, ?_, ?_, rfl, rfl, ?_⟩
    rotate_left 2
    refine ⟨⟨?_, ?_, ?_, ?_, ?_, ?_, ?_, ?_, ?_, ?_, ?_⟩⟩
    all_goals first | exact h0 | exact h1 | exact h2 | exact h3 | exact hb | omega
 case rest =>
  obtain ⟨bn, bl, N, L, rfl, rfl, H2⟩ := hcut
  have hmkb := print_make_int (P := Try.prog) 49 4 (.bool false) 1 Try.underlying49 info4 rfl (by omega) (n : Int) (by omega) (by simp; omega)
  rw [Int.toNat_natCast] at hmkb
  go_upto_region 9 with (fail)
  generalize hW3 : ((((((wc.alloc _).alloc _).alloc _).alloc _).alloc _).alloc _) = W3
  obtain ⟨a0, a1, a2, a3, a4, a5, hb3, hs3⟩ := alloc6 wc _ _ _ _ _ _ W3 hW3.symm
  have HX0 : Aside0 (∃ (Z : Bl) (B : Nat), Z = ⟨wc.heap.size + 1 + 1 + 1 + 1, bn, bl, wc.heap.size + 1, wc.heap.size + 1 + 1, W1.heap.size, wc.heap.size + 1 + 1 + 1 + 1 + 1, wc.heap.size + 1 + 1 + 1, N, L, wc.heap.size⟩ ∧ Z.Lies w B ∧ TM w W3 wK B Z n B1 B2 (.slice none 0 0) (.slice none 0 0) (Tj.start n)) := ⟨by
   have h2 := H2.out
   have hg := hG.out
   have hz2 := hg.2.2
   have hz1 : w.heap.size ≤ W1.heap.size := HB.out.size
   have hz3 := h2.be.size
   have l1' := blk_lt h2.hn
   have l2' := blk_lt h2.hl
   have l3' := blk_lt h2.nN
   have l4' := blk_lt h2.lL
   have b1 := h2.b1; have b2 := h2.b2; have b3 := h2.b3; have b4 := h2.b4
   have hk : ∀ {k : Nat} {o : Obj}, wc.heap[k]? = some o → W3.heap[k]? = some o := fun hk => (hb3.block _ (blk_lt hk)).trans hk
   refine ⟨_, wc.heap.size + 6, rfl, ⟨fun k hk => ?_, ?_, ?_, h2.ne1, h2.ne2, ?_, ?_⟩, ?_⟩
   ·simp only at hk
    omega
   ·simp only; omega
   ·simp only; omega
   ·simp only; omega
   ·simp only; omega
   ·refine ⟨a4, hk h2.hn, by have := hk h2.nN; rw [made0] at this; exact this, hk h2.hl, by have := hk h2.lL; rw [made0] at this; exact this, a1, by rw [madeB] at a0; exact a0, a2, RowI.of (Kd.R_nil KI 3 _ _ (fun _ => True)), hk ((h2.be.block _ (blk_lt hg.1)).trans hg.1), a5, a3, Kd.S_nil _ _ _ _ _, fun a v e => ?_, ?_, by omega⟩
    ·obtain ⟨p1, p2, p3⟩ := HP.out a v e
     simp only
     exact ⟨by omega, pw_cell_below hb3 (pw_cell_below h2.be (pw_cell_below hg.2.1 p3))⟩
    ·exact HB.out.trans ((hg.2.1.trans ((h2.be.mono (by omega)).trans (hb3.mono (by omega)))).mono hz1)⟩
  obtain ⟨Z, B, hZe, hZ, hT⟩ := HX0.out
  have e1 : wc.heap.size + 1 + 1 + 1 + 1 + 1 = Z.bf := by rw [hZe]
  have e2 : wc.heap.size + 1 + 1 + 1 + 1 = Z.bc := by rw [hZe]
  have e3 : wc.heap.size + 1 + 1 + 1 = Z.bu := by rw [hZe]
  have e4 : wc.heap.size + 1 + 1 = Z.bs := by rw [hZe]
  have e5 : wc.heap.size + 1 = Z.bo := by rw [hZe]
  have e6 : W1.heap.size = Z.gb := by rw [hZe]
  have e7 : bn = Z.bn := by rw [hZe]
  have e8 : bl = Z.bl := by rw [hZe]
  rw [e1, e2, e3, e4, e5, e6, e7, e8]
  have HT0 := Aside0.mk hT
  clear e1 e2 e3 e4 e5 e6 e7 e8 hT hZe HX0 a0 a1 a2 a3 a4 a5 hb3 hs3 hW3 H2 hmkb hG HB hmk
  obtain ⟨rows, hrows⟩ : ∃ rows, rows = tidy (built n l1 true) := ⟨_, rfl⟩
  have hN : rows.length = n := by rw [hrows, tidy_length, built_length]
  have hfits : Fits rows := by rw [hrows]; exact fits_tidy HVL.out true
  have hlens : ∀ r ∈ rows, r.length ≤ 10000 := by rw [hrows]; intro r hr; have := len_tidy n l1 true r hr; omega
  have hkk := HK.out.1
  rw [← hrows] at hkk
  obtain ⟨se, hse, hfe, hre⟩ : ∃ se, visitAll rows n n (Tj.start n) = some se ∧ fine se.out = true ∧ r = se.out.mergeSort byFirst := by
   have h := HH.out
   rw [← hrows] at h
   unfold compsOf at h
   split at h
   ·exact absurd h (by simp)
   ·rename_i se hse
    split at h
    ·rename_i hf; exact ⟨se, hse, hf, (Option.some.inj h).symm⟩
    ·exact absurd h (by simp)
  have HSE := Aside0.mk hse
  have HFE := Aside0.mk (And.intro hfe hre)
  have HF0 : Aside0 (Fit (Tj.start n) n) := ⟨⟨by simp [Tj.start], by simp [Tj.start], by simp [Tj.start], fun x hx => by simp [Tj.start] at hx⟩⟩
  have HKK := Aside0.mk (And.intro hkk (And.intro hfits hlens))
  clear hrows hse hfe hre hkk HK HP HH hfits hlens
  go_wp2
  go_loopg [25] (n + 1) (fun m t wr => ∃ (i : Nat) (vs vu : Value) (s : TS), t = .int .i64 i ∧ i ≤ n ∧ n < m + i ∧ Aside0 (TM w wr wK B Z n B1 B2 vs vu s) ∧ Aside0 (Fit s n) ∧ Aside0 (visitAll rows n (n - i) s = some se))
  case atStart => exact ⟨0, _, _, Tj.start n, rfl, Nat.zero_le _, by omega, HT0, HF0, HSE⟩
  case round =>
   clear HT0 HF0 HSE
   obtain ⟨i, vs, vu, s, rfl, hi1, hi2, HM, HF, HR⟩ := hrel
   by_cases hlt : i < n
   ·have kn : wr.cell? ⟨Z.bn, 0, none⟩ = some (.slice (some ⟨Z.N, 0, none⟩) n n) := (blk_cell HM.out.bn 0).trans rfl
    have kx := ints_cell HM.out.nn (i : Int) (by omega) (by rw [HF.out.num]; omega)
    rw [Int.toNat_natCast] at kx
    have hltI : decide ((i : Int) < (n : Int)) = true := by simpa using hlt
    have hltD : decide (i < n) = true := by simpa using hlt
    obtain ⟨k, hk⟩ : ∃ k, n - i = k + 1 := ⟨n - i - 1, by omega⟩
    have HV : Aside0 ((if rd s.num (i : Int) = 0 then (match visit rows (n + 1) (i : Int) s with
     | some s' => visitAll rows n k s'
     | none => none) else visitAll rows n k s) = some se) := ⟨by
      have h := HR.out
      rw [hk] at h
      unfold visitAll at h
      rw [show n - (k + 1) = i from by omega] at h
      exact h⟩
    have hk2 : n - (i + 1) = k := by omega
    have HK2 := Aside0.mk hk2
    clear hk hk2 HR
    obtain ⟨m1, rfl⟩ : ∃ m1, gk = m1 + 1 := ⟨gk - 1, by omega⟩
    by_cases hz : rd s.num (i : Int) = 0
    ·obtain ⟨sy, hvx, hgo⟩ : ∃ sy, visit rows (n + 1) (i : Int) s = some sy ∧ visitAll rows n k sy = some se := by
      have h := HV.out
      rw [if_pos hz] at h
      split at h
      ·rename_i sy h1; exact ⟨sy, h1, h⟩
      ·exact absurd h (by simp)
     have HFy := Aside0.mk (fit_visit HKK.out.2.1 hN (n + 1) (i : Int) s sy (by omega) (by omega) HF.out hvx)
     have HGo := Aside0.mk hgo
     have hcon := visit_calls n hn B1 B2 B Z rows hN HKK.out.2.1 HKK.out.2.2 w wK hZ HKK.out.1 (n + 1) (i : Int) s sy wr vs vu (by omega) (by omega) HF.out HM.out hvx
     unfold Bl.ptrs at hcon
     simp only [List.append_toArray, List.cons_append, List.nil_append] at hcon
     have kfn : wr.cell? ⟨Z.bf, 0, none⟩ = some (.func (.func 46) #[] #[.pointer (some ⟨Z.bc, 0, none⟩), .pointer (some ⟨Z.bn, 0, none⟩), .pointer (some ⟨Z.bl, 0, none⟩), .pointer (some ⟨Z.bo, 0, none⟩), .pointer (some ⟨Z.bs, 0, none⟩), .pointer (some ⟨Z.gb, 0, none⟩), .pointer (some ⟨Z.bf, 0, none⟩), .pointer (some ⟨Z.bu, 0, none⟩)]) := (blk_cell HM.out.f 0).trans rfl
     rw [hz] at kx
     clear hz hvx hgo HV
     go_wp2_with (go_at_call 46; go_loud (refine hcon.mono ?_); rintro e W6c ⟨rfl, vs3, vu3, hM3⟩; have HM3 := Aside0.mk hM3; clear hM3)
     go_roundg m1
     case measure => omega
     case rel => exact ⟨i + 1, vs3, vu3, sy, by go_num, by omega, by omega, HM3, HFy, ⟨by rw [HK2.out]; exact HGo.out⟩⟩
    ·have HGo : Aside0 (visitAll rows n k s = some se) := ⟨by have h := HV.out; rw [if_neg hz] at h; exact h⟩
     have hzb : (rd s.num (i : Int) == 0) = false := by simpa using hz
     clear hz HV
     go_wp2
     go_roundg m1
     case measure => omega
     case rel => exact ⟨i + 1, vs, vu, s, by go_num, by omega, by omega, HM, HF, ⟨by rw [HK2.out]; exact HGo.out⟩⟩
   ·obtain rfl : i = n := by omega
    have hse : s = se := by
     have h := HR.out
     rw [Nat.sub_self] at h
     unfold visitAll at h
     exact Option.some.inj h
    subst hse
    clear HR
    have hltI : decide ((i : Int) < (i : Int)) = false := by simp
    have hltD : decide (i < i) = false := by simp
    have ku : wr.cell? ⟨Z.bu, 0, none⟩ = some vu := (blk_cell HM.out.bu 0).trans rfl
    have hfe := HFE.out.1
    unfold fine at hfe
    simp only [Bool.and_eq_true, List.all_eq_true, decide_eq_true_eq, Bool.not_eq_true', List.isEmpty_eq_false_iff] at hfe
    have hsc := sort_classes wr B vu s.out (fun k => B ≤ k ∧ some k ≠ vs.ownBlock) HM.out.ou (fun c hc => (hfe.1.1 c hc).1.1) (fun c hc => ⟨(hfe.1.1 c hc).1.2, (hfe.1.1 c hc).2⟩) hfe.1.2 hfe.2
    have hub : some Z.bu ≠ vu.ownBlock := fun e => by have := (Kd.S_R HM.out.ou).1 _ e.symm; have := hZ.lt Z.bu (by simp); omega
    have HUB := Aside0.mk hub
    clear hub hfe
    obtain ⟨Au, cu, hqu⟩ := Kd.S_slice HM.out.ou
    subst hqu
    go_wp2_with (go_at_call 49; go_loud (refine hsc.mono ?_); rintro e W7 ⟨rfl, hS7, hg7⟩; have HS7 := Aside0.mk hS7; have HG7 := Aside0.mk hg7; have ku7 := (blk_cell (blk_grown HM.out.bu hg7 HUB.out) 0).trans rfl; clear hS7 hg7)
    refine bodyPost_ret (results_tmp rfl _ _ _) rfl ⟨_, rfl, ?_, ?_⟩
    ·rw [HFE.out.2]
     have hlt := hZ.lt Z.bu (by simp)
     exact Kd.S_mono (Kd.S_lower HS7.out (by omega)) (fun _ _ => trivial)
    ·have hlt := hZ.lt Z.bu (by simp)
     exact HM.out.be.grown HG7.out HM.out.be.size (fun k e => by have := (Kd.S_R HM.out.ou).1 k e; omega)
end Go.Proofs.Ytlldjinejckbaaa.Co

end
section
namespace Go.Proofs.Ytlldjinejckbaaa.PD
open Go.RowKit Go.Proofs.YtlldjinejckbaaaW.PrintWords Go.Proofs.YtlldjinejckbaaaW.PrintLast Go.Proofs.YtlldjinejckbaaaW.PrintMore
attribute [local go_sem] max2_int min2_int max_two min_two max_three min_three max_four min_four
set_option linter.unusedVariables false
set_option linter.unusedSimpArgs false
def digraph_Components.f (a0 : Int) (l1 : List (S55)) : Option ((List (List Int))) := if 0 ≤ a0 ∧ a0 ≤ 1000 ∧ l1.length ≤ 10000 ∧ ∀ e ∈ l1, 0 ≤ e.f0 ∧ e.f0 < a0 ∧ 0 ≤ e.f1 ∧ e.f1 < a0 then Tj.compsOf (Ng.tidy (Ng.built a0.toNat l1 true)) a0.toNat else none
theorem digraph_Components.calls (a0 : Int) (A1 : Option Addr) (c1 : Nat) (l1 : List (S55)) (r : List (List Int)) (w : World) (hr1 : Kd.C k55 w A1 l1.length l1) (hc1 : l1.length ≤ c1) (h : digraph_Components.f a0 l1 = some r) :
  Calls Try.prog 27 #[.int .i64 a0, .slice A1 l1.length c1] w fun e w' => ∃ v0_ : Value, e = .returned (v0_) ∧ Kd.S (Kd.slice 3 (Kd.int .i64)) 26 w' w.heap.size (fun _ => True) v0_ r ∧ Below w.heap.size w w' := by
 unfold digraph_Components.f at h
 split at h
 ·rename_i hp
  obtain ⟨n, rfl⟩ := Int.eq_ofNat_of_zero_le hp.1
  rw [Int.toNat_natCast] at h
  exact Co.Components_calls n (by omega) A1 c1 l1 r w hr1 hc1 hp.2.2.1 hp.2.2.2 h
 ·cases h
end Go.Proofs.Ytlldjinejckbaaa.PD

end
section
namespace Go.Proofs.Ytlldjinejckbaaa.PD
open Go.RowKit Go.Proofs.YtlldjinejckbaaaW.PrintWords Go.Proofs.YtlldjinejckbaaaW.PrintLast Go.Proofs.YtlldjinejckbaaaW.PrintMore
attribute [local go_sem] max2_int min2_int max_two min_two max_three min_three max_four min_four
set_option linter.unusedVariables false
set_option linter.unusedSimpArgs false
def wireloomref05_With.f (a0_0 : Int) (l0_1 : List (S55)) (a1 : Int) (a2 : Int) : Option (Int × (List (S55))) := (some (([] : List (S55)) : List (S55))).bind fun y149 => (if y149.length + l0_1.length < 8796093022208 then ((some (y149 ++ l0_1 : List (S55))).bind fun y152 => ((some (([(⟨a1, a2⟩ : S55)] : List (S55)) : List (S55))).bind fun y155 => (if y152.length + y155.length < 8796093022208 then (some (a0_0, (y152 ++ y155))) else (none)))) else (none))
def wireloomref05_With.T1 : Bool × List (List Nat × List Nat) := (true, [([], []), ([0], [0]), ([], []), ([], []), ([3], [3]), ([2, 4], [2, 4]), ([], []), ([], []), ([6, 7], [6, 7]), ([8], [8]), ([5, 9, 5], [5, 9]), ([1, 10], [1, 10]), ([11, 10, 0, 1, 2, 3, 4, 5, 6, 7, 8, 9, 10, 11], [11])])
def wireloomref05_With.B1 : List Nat := [0, 1, 0, 0, 8, 28, 0, 0, 192, 448, 1020, 2047, 4095]
theorem wireloomref05_With.tab1 : rtab .any (opsOf Try.f32 1) = wireloomref05_With.T1 := by kernel_rfl
theorem wireloomref05_With.bits1 : waitsOk wireloomref05_With.T1.2 wireloomref05_With.B1 = true := by kernel_rfl
set_option maxHeartbeats 8000000 in
set_option maxRecDepth 100000 in
theorem wireloomref05_With.calls (a0_0 : Int) (A0_1 : Option Addr) (c0_1 : Nat) (l0_1 : List (S55)) (a1 : Int) (a2 : Int) (r1 : Int) (r2 : List (S55)) (w : World) (hr0_1 : Kd.C k55 w A0_1 l0_1.length l0_1) (hc0_1 : l0_1.length ≤ c0_1) (h : wireloomref05_With.f a0_0 l0_1 a1 a2 = some (r1, r2)) :
  Calls Try.prog 32 #[.agg #[.int .i64 a0_0, .slice A0_1 l0_1.length c0_1], .int .i64 a1, .int .i64 a2] w fun e w' => ∃ v1_ : Value, e = .returned (.agg #[.int .i64 r1, v1_]) ∧ Kd.R k55 55 w' w.heap.size (fun _ => True) v1_ r2 ∧ Below w.heap.size w w' := by
 have hu31 := Try.underlying31
 have hu55 := Try.underlying55
 have HR0_1 := Aside0.mk hr0_1
 have HC0_1 := Aside0.mk hc0_1
 clear hr0_1 hc0_1
 have HB := Aside0.mk (Below.refl w.heap.size w)
 have H : ((some (([] : List (S55)) : List (S55))).bind fun y149 => (if y149.length + l0_1.length < 8796093022208 then ((some (y149 ++ l0_1 : List (S55))).bind fun y152 => ((some (([(⟨a1, a2⟩ : S55)] : List (S55)) : List (S55))).bind fun y155 => (if y152.length + y155.length < 8796093022208 then (some (a0_0, (y152 ++ y155))) else (none)))) else (none))) = some (r1, r2) := h
 clear h
 obtain ⟨y149, hy149⟩ : ∃ y_ : List (S55), y_ = (([] : List (S55))) := ⟨_, rfl⟩
 replace H : (if y149.length + l0_1.length < 8796093022208 then ((some (y149 ++ l0_1 : List (S55))).bind fun y152 => ((some (([(⟨a1, a2⟩ : S55)] : List (S55)) : List (S55))).bind fun y155 => (if y152.length + y155.length < 8796093022208 then (some (a0_0, (y152 ++ y155))) else (none)))) else (none)) = some (r1, r2) := by first | (rw [hy149]; with_reducible exact H) | (have H2_ := (Option.bind_some _ _).symm.trans H; rw [hy149]; with_reducible exact H2_) | (have H2_ := (Option.bind_some _ _).symm.trans H; with_reducible exact H2_) | with_reducible exact H | (rw [hy149]; exact H) | exact H
 have Ny149 := Aside0.mk hy149
 clear hy149
 by_cases c4 : y149.length + l0_1.length < 8796093022208
 rotate_left
 ·rw [if_neg c4] at H
  exact absurd H (by simp)
 rw [if_pos c4] at H
 have LMc4 := Aside0.mk c4
 clear c4
 obtain ⟨y152, hy152⟩ : ∃ y_ : List (S55), y_ = (y149 ++ l0_1) := ⟨_, rfl⟩
 replace H : ((some (([(⟨a1, a2⟩ : S55)] : List (S55)) : List (S55))).bind fun y155 => (if y152.length + y155.length < 8796093022208 then (some (a0_0, (y152 ++ y155))) else (none))) = some (r1, r2) := by first | (rw [hy152]; with_reducible exact H) | (have H2_ := (Option.bind_some _ _).symm.trans H; rw [hy152]; with_reducible exact H2_) | (have H2_ := (Option.bind_some _ _).symm.trans H; with_reducible exact H2_) | with_reducible exact H | (rw [hy152]; exact H) | exact H
 have Ny152 := Aside0.mk hy152
 clear hy152
 obtain ⟨y155, hy155⟩ : ∃ y_ : List (S55), y_ = (([(⟨a1, a2⟩ : S55)] : List (S55))) := ⟨_, rfl⟩
 replace H : (if y152.length + y155.length < 8796093022208 then (some (a0_0, (y152 ++ y155))) else (none)) = some (r1, r2) := by first | (rw [hy155]; with_reducible exact H) | (have H2_ := (Option.bind_some _ _).symm.trans H; rw [hy155]; with_reducible exact H2_) | (have H2_ := (Option.bind_some _ _).symm.trans H; with_reducible exact H2_) | with_reducible exact H | (rw [hy155]; exact H) | exact H
 have Ny155 := Aside0.mk hy155
 clear hy155
 by_cases c5 : y152.length + y155.length < 8796093022208
 rotate_left
 ·rw [if_neg c5] at H
  exact absurd H (by simp)
 rw [if_pos c5] at H
 have LMc5 := Aside0.mk c5
 clear c5
 obtain ⟨y158, hy158⟩ : ∃ y_ : List (S55), y_ = (y152 ++ y155) := ⟨_, rfl⟩
 replace H : (some (a0_0, y158)) = some (r1, r2) := by first | (rw [hy158]; with_reducible exact H) | (have H2_ := (Option.bind_some _ _).symm.trans H; rw [hy158]; with_reducible exact H2_) | (have H2_ := (Option.bind_some _ _).symm.trans H; with_reducible exact H2_) | with_reducible exact H | (rw [hy158]; exact H) | exact H
 have Ny158 := Aside0.mk hy158
 clear hy158
 simp only [Option.some.injEq, Prod.mk.injEq] at H
 obtain ⟨rfl, rfl⟩ := H
 go_enter Try.func32, Try.ntmps32
 try go_wp2_with (first | ((with_reducible refine gate_dst (N := 3) rfl ?_); refine box_event ?hg (N := 3) ?hd (cs := #[.int .i64 a0_0, .slice A0_1 l0_1.length c0_1]) (t := 31) ?hr ?_; (case hd => rfl); (case hg => rfl); (case hr => first | (go_simp; done) | (go_simp; rfl)); intro gb147 hg w6 hbox hb; have BK147 := Aside0.mk (hbox); have GW147 := Aside0.mk ((by rw [hg]; exact (below_size (wB0 HB.out)) : w.heap.size ≤ gb147)); have GE147 := Aside0.mk ((by rw [hg]; exact (below_size (wB0 HB.out)) : w.heap.size ≤ gb147)); replace HB := Aside0.mk (below_step (wB0 HB.out) hb); clear hb hbox hg) | ((with_reducible refine gate_dst (N := 6) rfl ?_); refine box_event ?hg (N := 6) ?hd (cs := #[.int .i64 0, .slice none 0 0]) (t := 31) ?hr ?_; (case hd => rfl); (case hg => rfl); (case hr => first | (go_simp; done) | (go_simp; rfl)); intro gb148 hg w7 hbox hb; have BK148 := Aside0.mk (hbox); have GW148 := Aside0.mk ((by rw [hg]; exact (below_size (wB1 HB.out GE147.out)) : w.heap.size ≤ gb148)); have GE148 := Aside0.mk ((by rw [hg]; exact (below_size (wB1 HB.out GE147.out)) : w.heap.size ≤ gb148)); replace HB := Aside0.mk (below_step (wB1 HB.out GE147.out) hb); have NB147_148 := Aside0.mk ((by rw [hg]; exact Nat.ne_of_lt (blk_lt (g := gb147) (o := .cells #[.int .i64 a0_0, .slice A0_1 l0_1.length c0_1] 31 (0, 0)) (bA BK147.out)) : gb147 ≠ gb148)); have NB148_147 := Aside0.mk ((by rw [hg]; exact Nat.ne_of_gt (blk_lt (g := gb147) (o := .cells #[.int .i64 a0_0, .slice A0_1 l0_1.length c0_1] 31 (0, 0)) (bA BK147.out)) : gb148 ≠ gb147)); replace BK147 := kC BK147 hb; clear hb hbox hg))
 replace BK147 := Aside0.mk (blk_drew BK147.out)
 replace BK148 := Aside0.mk (blk_drew BK148.out)
 replace HB := Aside0.mk (below_drew1 HB.out)
 refine start_ (n := 13) (S := fun w' => w'.cell? ⟨gb147, 0, none⟩ = some (.int .i64 a0_0) ∧ w'.cell? ⟨gb147, 1, none⟩ = some (.slice A0_1 l0_1.length c0_1)) (ds := []) #[false, false, false, false, false, false, false, false, false, false, false, false, false] (by kernel_rfl) rfl rfl ⟨(blk_cell BK147.out 0).trans rfl, (blk_cell BK147.out 1).trans rfl⟩ (fun hHeld => ?_); refine with_tabW wireloomref05_With.tab1 wireloomref05_With.bits1 (fun HT_ HW_ => ?_)
 generalize w7.drew = w8 at BK147 BK148 HB hHeld ⊢
 refine pV 0 7 (bz 13 0x1) HT_.out ?_
 refine pV 3 10 (bz 13 0x9) HT_.out ?_
 refine pV 6 13 (bz 13 0x49) HT_.out ?_
 refine pV 7 14 (bz 13 0xc9) HT_.out ?_
 refine pV 8 15 (bz 13 0x1c9) HT_.out ?_
 refine tV 1 8 (bz 13 0x1cb) HT_.out HW_.out hHeld rfl rfl (by rintro w' ⟨s0, s1⟩; go_simp; with_reducible rfl) ?_
 refine tV 4 11 (bz 13 0x1db) HT_.out HW_.out hHeld rfl rfl (by rintro w' ⟨s0, s1⟩; go_simp; with_reducible rfl) ?_
 refine join_ (σ := Value × Value × Value) 3 #[true, true, true, true, true, true, true, true, true, true, false, false, false] (fun s_ => [(9, s_.1), (12, s_.2.1), (16, s_.2.2)]) (fun s_ w' => (w'.cell? ⟨gb147, 0, none⟩ = some (.int .i64 a0_0) ∧ w'.cell? ⟨gb147, 1, none⟩ = some (.slice A0_1 l0_1.length c0_1)) ∧ (Kd.R k55 55 w' w.heap.size (fun k_ => some k_ ≠ (s_.2.2 : Value).ownBlock) s_.2.1 y152) ∧ (Kd.R k55 55 w' w.heap.size (fun k_ => some k_ ≠ (s_.2.1 : Value).ownBlock) s_.2.2 y155) ∧ (w'.heap[gb147]? = some (.cells #[.int .i64 a0_0, .slice A0_1 l0_1.length c0_1] 31 (0, 0))) ∧ (w'.heap[gb148]? = some (.cells #[.int .i64 0, .slice none 0 0] 31 (0, 0))) ∧ (Below w.heap.size w w')) ?_ ?_
 rotate_left
 ·intro hCont
  refine two_ (i := 2) (j := 9) (Ni := some 9) (Nj := some 16) #[true, true, true, true, true, false, true, true, true, false, false, false, false] #[true, true, false, true, true, false, true, true, true, true, false, false, false] rfl rfl rfl rfl (two_of HT_.out (by kernel_rfl)) (by decide) (by decide) (fun K hK => ?_) (fun K hK => ?_)
  ·skip
   refine Kd.R_lit_step k55 _ 55 ?hg (N := 9) ?hd (xs := ([] : List (S55))) (inner := []) (ok := fun _ => True) (okp := fun _ => True) ?hr ?hp (fun _ hk => hk) trivial (Below.refl _ _) (Nat.le_refl _) (by simp) ?_; (case hd => rfl); (case hg => rfl); (case hr => first | (go_simp; done) | (go_simp; rfl)); (case hp => exact (Reps.none _ _))
   intro v150 w9 ho10 hb hg_ hnew_
   clear hg_ hnew_
   (first | rw [← Ny149.out] at ho10 | (simp only [Int.reduceToNat] at ho10; rw [← Ny149.out] at ho10))
   have HO151 := Aside0.mk (Kd.R_lower ho10 (below_size (wB2 HB.out GE147.out GE148.out)))
   replace BK147 := kC BK147 hb
   replace BK148 := kC BK148 hb
   replace HB := Aside0.mk (below_step (wB2 HB.out GE147.out GE148.out) hb)
   clear hb ho10
   refine hK.out _ _ ⟨(blk_cell BK147.out 0).trans rfl, (blk_cell BK147.out 1).trans rfl⟩ (fun hHeld => ?_)
   clear hK K
   refine norm_ (a' := ?_) ?_ ?_
   rotate_left
   ·show Act.put _ (some 9) _ = _
    simp only [Act.put, List.setIfInBounds_toArray, List.set_cons_zero, List.set_cons_succ, i64_w, i32_w]
    rfl
   refine two_ (i := 5) (j := 9) (Ni := some 12) (Nj := some 16) #[true, true, true, true, true, true, true, true, true, false, false, false, false] #[true, true, true, true, true, false, true, true, true, true, false, false, false] rfl rfl rfl rfl (two_of HT_.out (by kernel_rfl)) (by decide) (by decide) (fun K hK => ?_) (fun K hK => ?_)
   ·skip
    refine Kd.R_append_rows_step k55 (w0 := w) w.heap.size (by rfl) (.tmp 9) (.tmp 11) 25 55 (.agg #[(.int .i64 0), (.int .i64 0)]) 16 rfl Try.underlying25 info55 rfl (by decide) (by omega) v150 y149 l0_1 _ _ _ (fun _ => True) (fun _ => False) rfl rfl ?aO ?aR (fun _ _ h => h) (fun _ h => h.elim) ?aF ?aB ?aS ?aL ?_
    (case aR => repeat (first | exact (Kd.C_below HR0_1.out HB.out) | (with_reducible refine Kd.C_alloc ?_ _) | (with_reducible refine Kd.C_drewN ?_ _) | (with_reducible refine Kd.C_drew ?_)))
    (case aB => exact (wB2 HB.out GE147.out GE148.out))
    (case aF => exact (fun _ _ => trivial))
    (case aO => exact (rA HO151.out))
    (case aS => exact (below_size (wB2 HB.out GE147.out GE148.out)))
    (case aL => have := LMc4.out; omega)
    intro v153 w11 ho hb hg hat
    rw [← Ny152.out] at ho
    replace BK147 := Aside0.mk (blk_grown (g := gb147) (o := .cells #[.int .i64 a0_0, .slice A0_1 l0_1.length c0_1] 31 (0, 0)) (bA BK147.out) hg (Kd.R_ne HO151.out BK147.out (by decide)))
    replace BK148 := Aside0.mk (blk_grown (g := gb148) (o := .cells #[.int .i64 0, .slice none 0 0] 31 (0, 0)) (bA BK148.out) hg (Kd.R_ne HO151.out BK148.out (by decide)))
    replace HB := Aside0.mk (hb)
    have HO154 := Aside0.mk (ho)
    clear HO151
    clear ho hb hg hat
    refine hK.out _ _ ⟨(blk_cell BK147.out 0).trans rfl, (blk_cell BK147.out 1).trans rfl⟩ (fun hHeld => ?_)
    clear hK K
    refine norm_ (a' := ?_) ?_ ?_
    rotate_left
    ·show Act.put _ (some 12) _ = _
     simp only [Act.put, List.setIfInBounds_toArray, List.set_cons_zero, List.set_cons_succ, i64_w, i32_w]
     rfl
    refine one_ (i := 9) (N := some 16) (bz 13 0x3ff) rfl rfl (one_of HT_.out (by kernel_rfl)) (by decide) (fun K hK => ?_)
    refine Kd.R_lit_step k55 _ 55 ?hg (N := 16) ?hd (xs := ([(⟨a1, a2⟩ : S55)] : List (S55))) (inner := [.int .i64 a1, .int .i64 a2]) (ok := fun _ => True) (okp := fun _ => True) ?hr ?hp (fun _ hk => hk) trivial (Below.refl _ _) (Nat.le_refl _) (by simp) ?_; (case hd => rfl); (case hg => rfl); (case hr => first | (go_simp; done) | (go_simp; rfl)); (case hp => exact (Reps.c2 (show Kd.M k55 _ _ _ (⟨a1, a2⟩ : S55) [.int .i64 a1, .int .i64 a2] from (k55_mkM _ _ _ (⟨a1, a2⟩ : S55) )) (Reps.none _ _)))
    intro v156 w12 ho13 hb hg_ hnew_
    clear hg_ hnew_
    (first | rw [← Ny155.out] at ho13 | (simp only [Int.reduceToNat] at ho13; rw [← Ny155.out] at ho13))
    have HO157 := Aside0.mk (Kd.R_lower (Kd.R_new' ho13 (Kd.R_lt (rA HO154.out))) (below_size (wB2 HB.out GE147.out GE148.out)))
    replace HO154 := Aside0.mk (Kd.R_elder' (rA HO154.out) (Kd.R_base ho13) hb)
    replace BK147 := kC BK147 hb
    replace BK148 := kC BK148 hb
    replace HB := Aside0.mk (below_step (wB2 HB.out GE147.out GE148.out) hb)
    clear hb ho13
    refine hK.out _ _ ⟨(blk_cell BK147.out 0).trans rfl, (blk_cell BK147.out 1).trans rfl⟩ (fun hHeld => ?_)
    clear hK K
    refine norm_ (a' := ?_) ?_ ?_
    rotate_left
    ·show Act.put _ (some 16) _ = _
     simp only [Act.put, List.setIfInBounds_toArray, List.set_cons_zero, List.set_cons_succ, i64_w, i32_w]
     rfl
    exact norm_ (by simp only [putAll, Act.put, List.setIfInBounds_toArray, List.set_cons_zero, List.set_cons_succ]) (hCont (v150, v153, v156) _ ⟨hHeld, (by (with_reducible repeat (first | apply Kd.R_alloc | apply Kd.R_drewN | apply Kd.R_drew)); exact Kd.R_mono HO154.out (fun _ hk => hk.2)), (by (with_reducible repeat (first | apply Kd.R_alloc | apply Kd.R_drewN | apply Kd.R_drew)); exact Kd.R_mono HO157.out (fun _ hk => hk.2)), (bA BK147.out), (bA BK148.out), (wB2 HB.out GE147.out GE148.out)⟩)
   ·skip
    refine Kd.R_lit_step k55 _ 55 ?hg (N := 16) ?hd (xs := ([(⟨a1, a2⟩ : S55)] : List (S55))) (inner := [.int .i64 a1, .int .i64 a2]) (ok := fun _ => True) (okp := fun _ => True) ?hr ?hp (fun _ hk => hk) trivial (Below.refl _ _) (Nat.le_refl _) (by simp) ?_; (case hd => rfl); (case hg => rfl); (case hr => first | (go_simp; done) | (go_simp; rfl)); (case hp => exact (Reps.c2 (show Kd.M k55 _ _ _ (⟨a1, a2⟩ : S55) [.int .i64 a1, .int .i64 a2] from (k55_mkM _ _ _ (⟨a1, a2⟩ : S55) )) (Reps.none _ _)))
    intro v156 w11 ho12 hb hg_ hnew_
    clear hg_ hnew_
    (first | rw [← Ny155.out] at ho12 | (simp only [Int.reduceToNat] at ho12; rw [← Ny155.out] at ho12))
    have HO157 := Aside0.mk (Kd.R_lower (Kd.R_new' ho12 (Kd.R_lt (rA HO151.out))) (below_size (wB2 HB.out GE147.out GE148.out)))
    replace HO151 := Aside0.mk (Kd.R_elder' (rA HO151.out) (Kd.R_base ho12) hb)
    replace BK147 := kC BK147 hb
    replace BK148 := kC BK148 hb
    replace HB := Aside0.mk (below_step (wB2 HB.out GE147.out GE148.out) hb)
    clear hb ho12
    refine hK.out _ _ ⟨(blk_cell BK147.out 0).trans rfl, (blk_cell BK147.out 1).trans rfl⟩ (fun hHeld => ?_)
    clear hK K
    refine norm_ (a' := ?_) ?_ ?_
    rotate_left
    ·show Act.put _ (some 16) _ = _
     simp only [Act.put, List.setIfInBounds_toArray, List.set_cons_zero, List.set_cons_succ, i64_w, i32_w]
     rfl
    refine one_ (i := 5) (N := some 12) (bz 13 0x3ff) rfl rfl (one_of HT_.out (by kernel_rfl)) (by decide) (fun K hK => ?_)
    refine Kd.R_append_rows_step k55 (w0 := w) w.heap.size (by rfl) (.tmp 9) (.tmp 11) 25 55 (.agg #[(.int .i64 0), (.int .i64 0)]) 16 rfl Try.underlying25 info55 rfl (by decide) (by omega) v150 y149 l0_1 _ _ _ (fun k_ => some k_ ≠ (v156 : Value).ownBlock) (fun _ => False) rfl rfl ?aO ?aR (fun _ _ h => h) (fun _ h => h.elim) ?aF ?aB ?aS ?aL ?_
    (case aR => repeat (first | exact (Kd.C_below HR0_1.out HB.out) | (with_reducible refine Kd.C_alloc ?_ _) | (with_reducible refine Kd.C_drewN ?_ _) | (with_reducible refine Kd.C_drew ?_)))
    (case aB => exact (wB2 HB.out GE147.out GE148.out))
    (case aF => exact (fun k_ hk => Kd.fresh' (Kd.R_lt (rA HO157.out)) k_ hk))
    (case aO => exact (by (with_reducible repeat (first | apply Kd.R_alloc | apply Kd.R_drewN | apply Kd.R_drew)); exact Kd.R_mono HO151.out (fun _ hk => hk.2)))
    (case aS => exact (below_size (wB2 HB.out GE147.out GE148.out)))
    (case aL => have := LMc4.out; omega)
    intro v153 w13 ho hb hg hat
    rw [← Ny152.out] at ho
    replace BK147 := Aside0.mk (blk_grown (g := gb147) (o := .cells #[.int .i64 a0_0, .slice A0_1 l0_1.length c0_1] 31 (0, 0)) (bA BK147.out) hg (Kd.R_ne HO151.out BK147.out (by decide)))
    replace BK148 := Aside0.mk (blk_grown (g := gb148) (o := .cells #[.int .i64 0, .slice none 0 0] 31 (0, 0)) (bA BK148.out) hg (Kd.R_ne HO151.out BK148.out (by decide)))
    replace HO157 := Aside0.mk (Kd.R_after (ok := (fun _ => True)) (rA HO157.out) hg hat)
    replace HB := Aside0.mk (hb)
    have HO154 := Aside0.mk (ho)
    clear HO151
    clear ho hb hg hat
    refine hK.out _ _ ⟨(blk_cell BK147.out 0).trans rfl, (blk_cell BK147.out 1).trans rfl⟩ (fun hHeld => ?_)
    clear hK K
    refine norm_ (a' := ?_) ?_ ?_
    rotate_left
    ·show Act.put _ (some 12) _ = _
     simp only [Act.put, List.setIfInBounds_toArray, List.set_cons_zero, List.set_cons_succ, i64_w, i32_w]
     rfl
    exact norm_ (by simp only [putAll, Act.put, List.setIfInBounds_toArray, List.set_cons_zero, List.set_cons_succ]) (hCont (v150, v153, v156) _ ⟨hHeld, (rA HO154.out), (by (with_reducible repeat (first | apply Kd.R_alloc | apply Kd.R_drewN | apply Kd.R_drew)); exact Kd.R_mono HO157.out (fun _ hk => hk.2)), (bA BK147.out), (bA BK148.out), (wB2 HB.out GE147.out GE148.out)⟩)
  ·skip
   refine Kd.R_lit_step k55 _ 55 ?hg (N := 16) ?hd (xs := ([(⟨a1, a2⟩ : S55)] : List (S55))) (inner := [.int .i64 a1, .int .i64 a2]) (ok := fun _ => True) (okp := fun _ => True) ?hr ?hp (fun _ hk => hk) trivial (Below.refl _ _) (Nat.le_refl _) (by simp) ?_; (case hd => rfl); (case hg => rfl); (case hr => first | (go_simp; done) | (go_simp; rfl)); (case hp => exact (Reps.c2 (show Kd.M k55 _ _ _ (⟨a1, a2⟩ : S55) [.int .i64 a1, .int .i64 a2] from (k55_mkM _ _ _ (⟨a1, a2⟩ : S55) )) (Reps.none _ _)))
   intro v156 w9 ho10 hb hg_ hnew_
   clear hg_ hnew_
   (first | rw [← Ny155.out] at ho10 | (simp only [Int.reduceToNat] at ho10; rw [← Ny155.out] at ho10))
   have HO157 := Aside0.mk (Kd.R_lower ho10 (below_size (wB2 HB.out GE147.out GE148.out)))
   replace BK147 := kC BK147 hb
   replace BK148 := kC BK148 hb
   replace HB := Aside0.mk (below_step (wB2 HB.out GE147.out GE148.out) hb)
   clear hb ho10
   refine hK.out _ _ ⟨(blk_cell BK147.out 0).trans rfl, (blk_cell BK147.out 1).trans rfl⟩ (fun hHeld => ?_)
   clear hK K
   refine norm_ (a' := ?_) ?_ ?_
   rotate_left
   ·show Act.put _ (some 16) _ = _
    simp only [Act.put, List.setIfInBounds_toArray, List.set_cons_zero, List.set_cons_succ, i64_w, i32_w]
    rfl
   refine one_ (i := 2) (N := some 9) (bz 13 0x3df) rfl rfl (one_of HT_.out (by kernel_rfl)) (by decide) (fun K hK => ?_)
   refine Kd.R_lit_step k55 _ 55 ?hg (N := 9) ?hd (xs := ([] : List (S55))) (inner := []) (ok := fun _ => True) (okp := fun _ => True) ?hr ?hp (fun _ hk => hk) trivial (Below.refl _ _) (Nat.le_refl _) (by simp) ?_; (case hd => rfl); (case hg => rfl); (case hr => first | (go_simp; done) | (go_simp; rfl)); (case hp => exact (Reps.none _ _))
   intro v150 w11 ho12 hb hg_ hnew_
   clear hg_ hnew_
   (first | rw [← Ny149.out] at ho12 | (simp only [Int.reduceToNat] at ho12; rw [← Ny149.out] at ho12))
   have HO151 := Aside0.mk (Kd.R_lower (Kd.R_new' ho12 (Kd.R_lt (rA HO157.out))) (below_size (wB2 HB.out GE147.out GE148.out)))
   replace HO157 := Aside0.mk (Kd.R_elder' (rA HO157.out) (Kd.R_base ho12) hb)
   replace BK147 := kC BK147 hb
   replace BK148 := kC BK148 hb
   replace HB := Aside0.mk (below_step (wB2 HB.out GE147.out GE148.out) hb)
   clear hb ho12
   refine hK.out _ _ ⟨(blk_cell BK147.out 0).trans rfl, (blk_cell BK147.out 1).trans rfl⟩ (fun hHeld => ?_)
   clear hK K
   refine norm_ (a' := ?_) ?_ ?_
   rotate_left
   ·show Act.put _ (some 9) _ = _
    simp only [Act.put, List.setIfInBounds_toArray, List.set_cons_zero, List.set_cons_succ, i64_w, i32_w]
    rfl
   refine one_ (i := 5) (N := some 12) (bz 13 0x3ff) rfl rfl (one_of HT_.out (by kernel_rfl)) (by decide) (fun K hK => ?_)
   refine Kd.R_append_rows_step k55 (w0 := w) w.heap.size (by rfl) (.tmp 9) (.tmp 11) 25 55 (.agg #[(.int .i64 0), (.int .i64 0)]) 16 rfl Try.underlying25 info55 rfl (by decide) (by omega) v150 y149 l0_1 _ _ _ (fun k_ => some k_ ≠ (v156 : Value).ownBlock) (fun _ => False) rfl rfl ?aO ?aR (fun _ _ h => h) (fun _ h => h.elim) ?aF ?aB ?aS ?aL ?_
   (case aR => repeat (first | exact (Kd.C_below HR0_1.out HB.out) | (with_reducible refine Kd.C_alloc ?_ _) | (with_reducible refine Kd.C_drewN ?_ _) | (with_reducible refine Kd.C_drew ?_)))
   (case aB => exact (wB2 HB.out GE147.out GE148.out))
   (case aF => exact (fun k_ hk => Kd.fresh' (Kd.R_lt (rA HO157.out)) k_ hk))
   (case aO => exact (by (with_reducible repeat (first | apply Kd.R_alloc | apply Kd.R_drewN | apply Kd.R_drew)); exact Kd.R_mono HO151.out (fun _ hk => hk.2)))
   (case aS => exact (below_size (wB2 HB.out GE147.out GE148.out)))
   (case aL => have := LMc4.out; omega)
   intro v153 w13 ho hb hg hat
   rw [← Ny152.out] at ho
   replace BK147 := Aside0.mk (blk_grown (g := gb147) (o := .cells #[.int .i64 a0_0, .slice A0_1 l0_1.length c0_1] 31 (0, 0)) (bA BK147.out) hg (Kd.R_ne HO151.out BK147.out (by decide)))
   replace BK148 := Aside0.mk (blk_grown (g := gb148) (o := .cells #[.int .i64 0, .slice none 0 0] 31 (0, 0)) (bA BK148.out) hg (Kd.R_ne HO151.out BK148.out (by decide)))
   replace HO157 := Aside0.mk (Kd.R_after (ok := (fun _ => True)) (rA HO157.out) hg hat)
   replace HB := Aside0.mk (hb)
   have HO154 := Aside0.mk (ho)
   clear HO151
   clear ho hb hg hat
   refine hK.out _ _ ⟨(blk_cell BK147.out 0).trans rfl, (blk_cell BK147.out 1).trans rfl⟩ (fun hHeld => ?_)
   clear hK K
   refine norm_ (a' := ?_) ?_ ?_
   rotate_left
   ·show Act.put _ (some 12) _ = _
    simp only [Act.put, List.setIfInBounds_toArray, List.set_cons_zero, List.set_cons_succ, i64_w, i32_w]
    rfl
   exact norm_ (by simp only [putAll, Act.put, List.setIfInBounds_toArray, List.set_cons_zero, List.set_cons_succ]) (hCont (v150, v153, v156) _ ⟨hHeld, (rA HO154.out), (by (with_reducible repeat (first | apply Kd.R_alloc | apply Kd.R_drewN | apply Kd.R_drew)); exact Kd.R_mono HO157.out (fun _ hk => hk.2)), (bA BK147.out), (bA BK148.out), (wB2 HB.out GE147.out GE148.out)⟩)
 rintro ⟨v150, v153, v156⟩ w14 ⟨hS_, h0_, h1_, h2_, h3_, h4_⟩
 have n0_ : Aside0 (Kd.R k55 55 w14 w.heap.size (fun k_ => some k_ ≠ (v156 : Value).ownBlock) v153 y152) := ⟨h0_⟩
 have n1_ : Aside0 (Kd.R k55 55 w14 w.heap.size (fun k_ => some k_ ≠ (v153 : Value).ownBlock) v156 y155) := ⟨h1_⟩
 have n2_ : Aside0 (w14.heap[gb147]? = some (.cells #[.int .i64 a0_0, .slice A0_1 l0_1.length c0_1] 31 (0, 0))) := ⟨h2_⟩
 have n3_ : Aside0 (w14.heap[gb148]? = some (.cells #[.int .i64 0, .slice none 0 0] 31 (0, 0))) := ⟨h3_⟩
 have n4_ : Aside0 (Below w.heap.size w w14) := ⟨h4_⟩
 clear BK147
 clear BK148
 clear HB
 clear h0_ h1_ h2_ h3_ h4_
 have HO154 := n0_
 have HO157 := n1_
 have BK147 := n2_
 have BK148 := n3_
 have HB := n4_
 clear n0_ n1_ n2_ n3_ n4_
 have hHeld : w14.cell? ⟨gb147, 0, none⟩ = some (.int .i64 a0_0) ∧ w14.cell? ⟨gb147, 1, none⟩ = some (.slice A0_1 l0_1.length c0_1) := hS_
 obtain ⟨Ao16, co16, eo16⟩ := Kd.R_slice HO157.out
 (first | subst eo16 | (injection eo16 with f1_ f2_ f3_; have f4_ := f1_.symm; have f5_ := f3_.symm; clear f1_ f2_ f3_; subst f4_; subst f5_))
 refine norm_ (a' := ?_) ?_ ?_
 rotate_left
 ·simp only [putAll, Act.put, List.setIfInBounds_toArray, List.set_cons_zero, List.set_cons_succ]
  rfl
 refine one_ (i := 10) (N := some 17) (bz 13 0x7ff) rfl rfl (one_of HT_.out (by kernel_rfl)) (by decide) (fun K hK => ?_)
 refine Kd.R_append_rows_step k55 (w0 := w) w.heap.size (by rfl) (.tmp 12) (.tmp 16) 25 55 (.agg #[(.int .i64 0), (.int .i64 0)]) 16 rfl Try.underlying25 info55 rfl (by decide) (by omega) v153 y152 y155 _ _ _ (fun k_ => some k_ ≠ (.slice Ao16 y155.length co16 : Value).ownBlock) (fun _ => False) rfl rfl ?aO ?aR (fun _ _ h => h) (fun _ h => h.elim) ?aF ?aB ?aS ?aL ?_
 (case aR => repeat (first | exact (Kd.R_reads' HO157.out).2.2 | (with_reducible refine Kd.C_alloc ?_ _) | (with_reducible refine Kd.C_drewN ?_ _) | (with_reducible refine Kd.C_drew ?_)))
 (case aB => exact (wB2 HB.out GE147.out GE148.out))
 (case aF => exact (fun k_ hk => Kd.fresh' (Kd.R_lt (rA HO157.out)) k_ hk))
 (case aO => exact (rA HO154.out))
 (case aS => exact (below_size (wB2 HB.out GE147.out GE148.out)))
 (case aL => have := LMc5.out; omega)
 intro v159 w15 ho hb hg hat
 rw [← Ny158.out] at ho
 replace BK147 := Aside0.mk (blk_grown (g := gb147) (o := .cells #[.int .i64 a0_0, .slice A0_1 l0_1.length c0_1] 31 (0, 0)) (bA BK147.out) hg (Kd.R_ne HO154.out BK147.out (by decide)))
 replace BK148 := Aside0.mk (blk_grown (g := gb148) (o := .cells #[.int .i64 0, .slice none 0 0] 31 (0, 0)) (bA BK148.out) hg (Kd.R_ne HO154.out BK148.out (by decide)))
 replace HO157 := Aside0.mk (Kd.R_after (ok := (fun _ => True)) (by (with_reducible repeat (first | apply Kd.R_alloc | apply Kd.R_drewN | apply Kd.R_drew)); exact Kd.R_mono HO157.out (fun _ hk => ⟨trivial, hk⟩)) hg hat)
 replace HB := Aside0.mk (hb)
 have HO160 := Aside0.mk (ho)
 clear HO154
 clear ho hb hg hat
 obtain ⟨Ao17, co17, eo17⟩ := Kd.R_slice HO160.out
 (first | subst eo17 | (injection eo17 with f1_ f2_ f3_; have f4_ := f1_.symm; have f5_ := f3_.symm; clear f1_ f2_ f3_; subst f4_; subst f5_))
 refine hK.out _ _ ⟨(blk_cell BK147.out 0).trans rfl, (blk_cell BK147.out 1).trans rfl⟩ (fun hHeld => ?_)
 clear hK K
 refine norm_ (a' := ?_) ?_ ?_
 rotate_left
 ·show Act.put _ (some 17) _ = _
  simp only [Act.put, List.setIfInBounds_toArray, List.set_cons_zero, List.set_cons_succ, i64_w, i32_w]
  rfl
 refine pV 11 18 (bz 13 0xfff) HT_.out ?_
 refine one_ (i := 12) (N := none) (bz 13 0x1fff) rfl rfl (one_of HT_.out (by kernel_rfl)) (by decide) (fun K hK => ?_)
 have hs18 : w15.cell? ⟨gb148, 0, none⟩ = some (.int .i64 0) := (blk_cell BK148.out 0).trans rfl
 have hfs18 := blk_frozen BK148.out 0
 have hns18_0 := NB147_148.out
 have hms18_0 := NB148_147.out
 have hs19 : w15.cell? ⟨gb148, 1, none⟩ = some (.slice none 0 0) := (blk_cell BK148.out 1).trans rfl
 have hfs19 := blk_frozen BK148.out 1
 have hns19_0 := NB147_148.out
 have hms19_0 := NB148_147.out
 refine skip_ (w1 := ?_) (by rfl) rfl ?_ ?_
 rotate_left
 ·go_simp
  rfl
 refine hK.out _ _ ⟨((cell_far (p := ⟨gb148, _, none⟩) NB147_148.out _).trans (((cell_far (p := ⟨gb148, _, none⟩) NB147_148.out _).trans (hHeld.1)))), ((cell_far (p := ⟨gb148, _, none⟩) NB147_148.out _).trans (((cell_far (p := ⟨gb148, _, none⟩) NB147_148.out _).trans (hHeld.2))))⟩ (fun hHeld => ?_)
 clear hK K
 refine done_ (done_of HT_.out (by kernel_rfl)) ?_
 try go_wp2
 refine bodyPost_ret (results_cell_row rfl _ _ gb148 31 #[.int .i64 a0_0, .slice Ao17 y158.length co17] (0, 0) _ rfl (by (with_reducible repeat (first | refine blk_drewN ?_ _ | refine blk_drew ?_ | refine blk_alloc ?_ _)); refine blk_put (cs := #[.int .i64 a0_0, .slice none 0 0]) ?_ 1 _ rfl; (with_reducible repeat (first | refine blk_drewN ?_ _ | refine blk_drew ?_ | refine blk_alloc ?_ _)); refine blk_put (cs := #[.int .i64 0, .slice none 0 0]) ?_ 0 _ rfl; (with_reducible repeat (first | refine blk_drewN ?_ _ | refine blk_drew ?_ | refine blk_alloc ?_ _)); exact BK148.out) Try.underlying31 rfl (by kernel_rfl)) rfl ?_
 exact ⟨_, eS, by (with_reducible repeat (first | apply Kd.R_alloc | apply Kd.R_drewN | apply Kd.R_drew)); exact Kd.R_mono (Kd.R_far (p := ⟨gb148, 1, none⟩) (Kd.R_far (p := ⟨gb148, 0, none⟩) (Kd.R_types HO160.out BK148.out (by decide)) (fun _ hk => hk.2) (.int .i64 a0_0)) (fun _ hk => hk.2) (.slice Ao17 y158.length co17)) (fun _ hk => trivial), by repeat (first | (with_reducible first | exact HB.out | apply below_alloc | apply pw_below_drewN | apply below_drew1 | refine below_set ?_ GE147.out | refine below_set ?_ GE148.out) | exact HB.out)⟩
end Go.Proofs.Ytlldjinejckbaaa.PD

end
section
namespace Go.Proofs.Ytlldjinejckbaaa.PD
open Go.RowKit Go.Proofs.YtlldjinejckbaaaW.PrintWords Go.Proofs.YtlldjinejckbaaaW.PrintLast Go.Proofs.YtlldjinejckbaaaW.PrintMore
attribute [local go_sem] max2_int min2_int max_two min_two max_three min_three max_four min_four
set_option linter.unusedVariables false
set_option linter.unusedSimpArgs false
mutual
def wireloomlaw05_examples.j0 : Nat → Bool → Int → List (S55) → Int → List (S55) → Int → List (S55) → Option (Bool)
 | 0, _, _, _, _, _, _, _ => none
 | k + 1, x40, x165000, x165001, x170000, x170001, x175000, x175001 => if x40 = true then (none) else ((wireloomlaw05_order.f x170000 x170001).bind fun bt202 => (if bt202.2 = 50 then ((wireloomlaw05_depth.f x170000 x170001).bind fun bt206 => (if bt206.2 = 50 then ((wireloomlaw05_cycle.f x170000 x170001).bind fun bt210 => ((wireloomref05_Alike.f k bt210.1 bt210.2 (([0, 3, 2] : List Int)) 0).bind fun t217 => (if t217 = true then ((wireloomlaw05_cycle.f x175000 x175001).bind fun bt218 => ((wireloomref05_Alike.f k bt218.1 bt218.2 (([1] : List Int)) 0).bind fun t225 => (if t225 = true then ((digraph_Components.f 4 x170001).bind fun t226 => ((wireloomref05_SameLists.f k t226 (([(([0, 2, 3] : List Int)), (([1] : List Int))] : List (List Int)))).bind fun t238 => (wireloomlaw05_examples.j1 k (!t238) x165000 x165001))) else (wireloomlaw05_examples.j1 k true x165000 x165001)))) else (none)))) else (none))) else (none)))
def wireloomlaw05_examples.j1 : Nat → Bool → Int → List (S55) → Option (Bool)
 | 0, _, _, _ => none
 | k + 1, x76, x165000, x165001 => if x76 = true then (none) else ((digraph_Valid.f k 4 x165001).bind fun t239 => (if t239 = true then ((digraph_Valid.f k 3 x165001).bind fun t240 => (if t240 = true then (none) else ((digraph_Check.f 4 x165001 (([2, 0, 1, 3] : List Int))).bind fun t244 => (if t244 = 0 then ((digraph_Check.f 4 x165001 (([0, 1, 2, 3] : List Int))).bind fun t248 => (if t248 = 6 then ((wireloomlaw05_order.f 0 ([] : List (S55))).bind fun bt249 => (if bt249.2 = 0 then ((digraph_Reach.f 4 x165001 4).bind fun t253 => (some ((t253.length : Int) == 0))) else (none))) else (none))) else (none))))) else (none)))
end
def wireloomlaw05_examples.f (k : Nat)  : Option (Bool) := (some (([(⟨2, 0⟩ : S55), (⟨0, 3⟩ : S55), (⟨1, 3⟩ : S55)] : List (S55)) : List (S55))).bind fun y161 => ((wireloomref05_With.f 4 y161 3 2).bind fun bt165 => ((wireloomref05_With.f 4 y161 1 1).bind fun bt170 => ((wireloomlaw05_order.f 4 y161).bind fun bt175 => ((wireloomref05_Alike.f k bt175.1 bt175.2 (([1, 2, 0, 3] : List Int)) 0).bind fun t182 => (if t182 = true then ((wireloomlaw05_depth.f 4 y161).bind fun bt183 => ((wireloomref05_Alike.f k bt183.1 bt183.2 (([1, 0, 0, 2] : List Int)) 0).bind fun t190 => (if t190 = true then ((digraph_Reach.f 4 y161 2).bind fun t191 => ((wireloomref05_Same.f k t191 (([0, 2, 3] : List Int))).bind fun t197 => (if t197 = true then ((wireloomlaw05_cycle.f 4 y161).bind fun bt198 => (wireloomlaw05_examples.j0 k (bt198.2 != 4) 4 y161 bt165.1 bt165.2 bt170.1 bt170.2)) else (wireloomlaw05_examples.j0 k true 4 y161 bt165.1 bt165.2 bt170.1 bt170.2)))) else (none)))) else (none))))))
theorem wireloomlaw05_examples.mono_l : ∀ k, (∀ y0 y1 y2 y3 y4 y5 y6, LeO (wireloomlaw05_examples.j0 k y0 y1 y2 y3 y4 y5 y6) (wireloomlaw05_examples.j0 (k + 1) y0 y1 y2 y3 y4 y5 y6)) ∧ (∀ y0 y1 y2, LeO (wireloomlaw05_examples.j1 k y0 y1 y2) (wireloomlaw05_examples.j1 (k + 1) y0 y1 y2))
 | 0 => ⟨fun _ _ _ _ _ _ _ r h => by simp [wireloomlaw05_examples.j0] at h, fun _ _ _ r h => by simp [wireloomlaw05_examples.j1] at h⟩
 | k + 1 => by
  obtain ⟨ih0, ih1⟩ := wireloomlaw05_examples.mono_l k
  refine ⟨?_, ?_⟩
  ·intro y0 y1 y2 y3 y4 y5 y6
   unfold wireloomlaw05_examples.j0
   repeat' first
   | (with_reducible exact ih0 _ _ _ _ _ _ _)
   | (with_reducible exact ih1 _ _ _)
   | (with_reducible exact digraph_Valid.mono _ _ _)
   | (with_reducible exact wireloomref05_Alike.mono _ _ _ _ _)
   | (with_reducible exact wireloomref05_Same.mono _ _ _)
   | (with_reducible exact wireloomref05_SameLists.mono _ _ _)
   | (with_reducible exact LeO.refl _)
   | (with_reducible exact LeO.none _)
   | (with_reducible refine LeO.ite ?_ ?_)
   | (with_reducible refine LeO.bind ?_ (fun _ => ?_))
   | exact ih0 _ _ _ _ _ _ _
   | exact ih1 _ _ _
   | exact digraph_Valid.mono _ _ _
   | exact wireloomref05_Alike.mono _ _ _ _ _
   | exact wireloomref05_Same.mono _ _ _
   | exact wireloomref05_SameLists.mono _ _ _
   | exact LeO.none _
   | refine LeO.ite ?_ ?_
   | refine LeO.bind ?_ (fun _ => ?_)
  ·intro y0 y1 y2
   unfold wireloomlaw05_examples.j1
   repeat' first
   | (with_reducible exact ih0 _ _ _ _ _ _ _)
   | (with_reducible exact ih1 _ _ _)
   | (with_reducible exact digraph_Valid.mono _ _ _)
   | (with_reducible exact wireloomref05_Alike.mono _ _ _ _ _)
   | (with_reducible exact wireloomref05_Same.mono _ _ _)
   | (with_reducible exact wireloomref05_SameLists.mono _ _ _)
   | (with_reducible exact LeO.refl _)
   | (with_reducible exact LeO.none _)
   | (with_reducible refine LeO.ite ?_ ?_)
   | (with_reducible refine LeO.bind ?_ (fun _ => ?_))
   | exact ih0 _ _ _ _ _ _ _
   | exact ih1 _ _ _
   | exact digraph_Valid.mono _ _ _
   | exact wireloomref05_Alike.mono _ _ _ _ _
   | exact wireloomref05_Same.mono _ _ _
   | exact wireloomref05_SameLists.mono _ _ _
   | exact LeO.none _
   | refine LeO.ite ?_ ?_
   | refine LeO.bind ?_ (fun _ => ?_)
theorem wireloomlaw05_examples.mono : ∀ k, LeO (wireloomlaw05_examples.f k ) (wireloomlaw05_examples.f (k + 1) ) := by
 intro  k
 obtain ⟨ih0, ih1⟩ := wireloomlaw05_examples.mono_l k
 unfold wireloomlaw05_examples.f
 repeat' first
   | (with_reducible exact ih0 _ _ _ _ _ _ _)
   | (with_reducible exact ih1 _ _ _)
   | (with_reducible exact digraph_Valid.mono _ _ _)
   | (with_reducible exact wireloomref05_Alike.mono _ _ _ _ _)
   | (with_reducible exact wireloomref05_Same.mono _ _ _)
   | (with_reducible exact wireloomref05_SameLists.mono _ _ _)
   | (with_reducible exact LeO.refl _)
   | (with_reducible exact LeO.none _)
   | (with_reducible refine LeO.ite ?_ ?_)
   | (with_reducible refine LeO.bind ?_ (fun _ => ?_))
   | exact ih0 _ _ _ _ _ _ _
   | exact ih1 _ _ _
   | exact digraph_Valid.mono _ _ _
   | exact wireloomref05_Alike.mono _ _ _ _ _
   | exact wireloomref05_Same.mono _ _ _
   | exact wireloomref05_SameLists.mono _ _ _
   | exact LeO.none _
   | refine LeO.ite ?_ ?_
   | refine LeO.bind ?_ (fun _ => ?_)
set_option maxHeartbeats 8000000 in
set_option maxRecDepth 100000 in
theorem wireloomlaw05_examples.calls (k : Nat)  (r : Bool) (w : World) (h : wireloomlaw05_examples.f k  = some r) :
  Calls Try.prog 10 #[] w fun e w' => e = .returned (.bool r) ∧ Below w.heap.size w w' := by
 have hu55 := Try.underlying55
 have hu31 := Try.underlying31
 have hu37 := Try.underlying37
 have hfd37_1 : ∀ (x0 x1 : Value) (W : World), (Instr.field 37 (.agg #[x0, x1]) 1).run Try.prog W = .ok x1 W := fun _ _ _ => by rfl
 have HB := Aside0.mk (Below.refl w.heap.size w)
 have H : ((some (([(⟨2, 0⟩ : S55), (⟨0, 3⟩ : S55), (⟨1, 3⟩ : S55)] : List (S55)) : List (S55))).bind fun y161 => ((wireloomref05_With.f 4 y161 3 2).bind fun bt165 => ((wireloomref05_With.f 4 y161 1 1).bind fun bt170 => ((wireloomlaw05_order.f 4 y161).bind fun bt175 => ((wireloomref05_Alike.f k bt175.1 bt175.2 (([1, 2, 0, 3] : List Int)) 0).bind fun t182 => (if t182 = true then ((wireloomlaw05_depth.f 4 y161).bind fun bt183 => ((wireloomref05_Alike.f k bt183.1 bt183.2 (([1, 0, 0, 2] : List Int)) 0).bind fun t190 => (if t190 = true then ((digraph_Reach.f 4 y161 2).bind fun t191 => ((wireloomref05_Same.f k t191 (([0, 2, 3] : List Int))).bind fun t197 => (if t197 = true then ((wireloomlaw05_cycle.f 4 y161).bind fun bt198 => (wireloomlaw05_examples.j0 k (bt198.2 != 4) 4 y161 bt165.1 bt165.2 bt170.1 bt170.2)) else (wireloomlaw05_examples.j0 k true 4 y161 bt165.1 bt165.2 bt170.1 bt170.2)))) else (none)))) else (none))))))) = some r := h
 clear h
 obtain ⟨y161, hy161⟩ : ∃ y_ : List (S55), y_ = (([(⟨2, 0⟩ : S55), (⟨0, 3⟩ : S55), (⟨1, 3⟩ : S55)] : List (S55))) := ⟨_, rfl⟩
 replace H : ((wireloomref05_With.f 4 y161 3 2).bind fun bt165 => ((wireloomref05_With.f 4 y161 1 1).bind fun bt170 => ((wireloomlaw05_order.f 4 y161).bind fun bt175 => ((wireloomref05_Alike.f k bt175.1 bt175.2 (([1, 2, 0, 3] : List Int)) 0).bind fun t182 => (if t182 = true then ((wireloomlaw05_depth.f 4 y161).bind fun bt183 => ((wireloomref05_Alike.f k bt183.1 bt183.2 (([1, 0, 0, 2] : List Int)) 0).bind fun t190 => (if t190 = true then ((digraph_Reach.f 4 y161 2).bind fun t191 => ((wireloomref05_Same.f k t191 (([0, 2, 3] : List Int))).bind fun t197 => (if t197 = true then ((wireloomlaw05_cycle.f 4 y161).bind fun bt198 => (wireloomlaw05_examples.j0 k (bt198.2 != 4) 4 y161 bt165.1 bt165.2 bt170.1 bt170.2)) else (wireloomlaw05_examples.j0 k true 4 y161 bt165.1 bt165.2 bt170.1 bt170.2)))) else (none)))) else (none)))))) = some r := by first | (rw [hy161]; with_reducible exact H) | (have H2_ := (Option.bind_some _ _).symm.trans H; rw [hy161]; with_reducible exact H2_) | (have H2_ := (Option.bind_some _ _).symm.trans H; with_reducible exact H2_) | with_reducible exact H | (rw [hy161]; exact H) | exact H
 have Ny161 := Aside0.mk hy161
 clear hy161
 replace H := Option.bind_eq_some_iff.mp H
 obtain ⟨⟨t165, t166⟩, A10, H⟩ := H
 replace H : ((wireloomref05_With.f 4 y161 1 1).bind fun bt170 => ((wireloomlaw05_order.f 4 y161).bind fun bt175 => ((wireloomref05_Alike.f k bt175.1 bt175.2 (([1, 2, 0, 3] : List Int)) 0).bind fun t182 => (if t182 = true then ((wireloomlaw05_depth.f 4 y161).bind fun bt183 => ((wireloomref05_Alike.f k bt183.1 bt183.2 (([1, 0, 0, 2] : List Int)) 0).bind fun t190 => (if t190 = true then ((digraph_Reach.f 4 y161 2).bind fun t191 => ((wireloomref05_Same.f k t191 (([0, 2, 3] : List Int))).bind fun t197 => (if t197 = true then ((wireloomlaw05_cycle.f 4 y161).bind fun bt198 => (wireloomlaw05_examples.j0 k (bt198.2 != 4) 4 y161 t165 t166 bt170.1 bt170.2)) else (wireloomlaw05_examples.j0 k true 4 y161 t165 t166 bt170.1 bt170.2)))) else (none)))) else (none))))) = some r := H
 have A1 := Aside0.mk A10
 clear A10
 replace H := Option.bind_eq_some_iff.mp H
 obtain ⟨⟨t170, t171⟩, A20, H⟩ := H
 replace H : ((wireloomlaw05_order.f 4 y161).bind fun bt175 => ((wireloomref05_Alike.f k bt175.1 bt175.2 (([1, 2, 0, 3] : List Int)) 0).bind fun t182 => (if t182 = true then ((wireloomlaw05_depth.f 4 y161).bind fun bt183 => ((wireloomref05_Alike.f k bt183.1 bt183.2 (([1, 0, 0, 2] : List Int)) 0).bind fun t190 => (if t190 = true then ((digraph_Reach.f 4 y161 2).bind fun t191 => ((wireloomref05_Same.f k t191 (([0, 2, 3] : List Int))).bind fun t197 => (if t197 = true then ((wireloomlaw05_cycle.f 4 y161).bind fun bt198 => (wireloomlaw05_examples.j0 k (bt198.2 != 4) 4 y161 t165 t166 t170 t171)) else (wireloomlaw05_examples.j0 k true 4 y161 t165 t166 t170 t171)))) else (none)))) else (none)))) = some r := H
 have A2 := Aside0.mk A20
 clear A20
 have HC3 := Aside0.mk H
 clear H
 go_enter Try.func10, Try.ntmps10
 go_upto_region 4 with (first | ((with_reducible refine gate_dst (N := 7) rfl ?_); (try (refine gate_guard (by rfl) ?_; dsimp only)); refine Kd.R_lit k55 _ 55 ?hg (N := 7) ?hd (xs := ([(⟨2, 0⟩ : S55), (⟨0, 3⟩ : S55), (⟨1, 3⟩ : S55)] : List (S55))) (inner := [.int .i64 2, .int .i64 0, .int .i64 0, .int .i64 3, .int .i64 1, .int .i64 3]) (ok := fun _ => True) (okp := fun _ => True) ?hr ?hp (fun _ hk => hk) trivial (Below.refl _ _) (Nat.le_refl _) (by simp) ?_; (case hd => rfl); (case hg => rfl); (case hr => first | (go_simp; done) | (go_simp; rfl)); (case hp => exact (Reps.c2 (show Kd.M k55 _ _ _ (⟨2, 0⟩ : S55) [.int .i64 2, .int .i64 0] from (k55_mkM _ _ _ (⟨2, 0⟩ : S55) )) (Reps.c2 (show Kd.M k55 _ _ _ (⟨0, 3⟩ : S55) [.int .i64 0, .int .i64 3] from (k55_mkM _ _ _ (⟨0, 3⟩ : S55) )) (Reps.c2 (show Kd.M k55 _ _ _ (⟨1, 3⟩ : S55) [.int .i64 1, .int .i64 3] from (k55_mkM _ _ _ (⟨1, 3⟩ : S55) )) (Reps.none _ _))))); intro v162 w4 ho5 hb hg_ hnew_; clear hg_ hnew_; (first | rw [← Ny161.out] at ho5 | (simp only [Int.reduceToNat] at ho5; rw [← Ny161.out] at ho5)); have HO163 := Aside0.mk (Kd.R_lower ho5 (below_size (wB0 HB.out))); replace HB := Aside0.mk (below_step (wB0 HB.out) hb); clear hb ho5; obtain ⟨Ao6, co6, eo6⟩ := Kd.R_slice HO163.out; subst eo6) | ((with_reducible refine gate_dst (N := 1) rfl ?_); (try (refine gate_guard (by rfl) ?_; dsimp only)); refine box_event ?hg (N := 1) ?hd (cs := #[.int .i64 0, .slice none 0 0]) (t := 31) ?hr ?_; (case hd => rfl); (case hg => rfl); (case hr => first | (go_simp; done) | (go_simp; rfl)); intro gb164 hg w7 hbox hb; replace HO163 := Aside0.mk (Kd.R_below (rA HO163.out) hb); have BK164 := Aside0.mk (hbox); have GW164 := Aside0.mk ((by rw [hg]; exact (below_size (wB0 HB.out)) : w.heap.size ≤ gb164)); have GE164 := Aside0.mk ((by rw [hg]; exact (below_size (wB0 HB.out)) : w.heap.size ≤ gb164)); replace HB := Aside0.mk (below_step (wB0 HB.out) hb); clear hb hbox hg; have hcz8_0 : w7.cell? ⟨gb164, 0, none⟩ = some (.int .i64 0) := (blk_cell BK164.out 0).trans rfl; have hcz8_1 : w7.cell? ⟨gb164, 1, none⟩ = some (.slice none 0 0) := (blk_cell BK164.out 1).trans rfl; have hfz8_0 := blk_frozen BK164.out 0; have hfz8_1 := blk_frozen BK164.out 1) | ((with_reducible refine gate_callee (f := 32) rfl ?_); refine goesL_ (some 10) rfl rfl Try.func32 (by kernel_rfl) rfl #[.agg #[.int .i64 4, .slice Ao6 y161.length co6], .int .i64 3, .int .i64 2] rfl (by (try simp only [List.map_toArray, List.map_cons, List.map_nil]); first | done | rfl | (simp only [List.length_drop, List.length_take]; rfl)) ?_; (with_reducible refine (wireloomref05_With.calls 4 _ _ y161 3 2 t165 t166 _ ?side1 ?side2 A1.out).mono ?_); (case side1 => refine (Kd.R_reads' (e := 55) (base := w.heap.size) (ok := fun k_ => True) (n := y161.length) (c := co6) ?_).2.2; exact (by (with_reducible repeat (first | apply Kd.R_alloc | apply Kd.R_drewN | apply Kd.R_drew)); exact (Kd.R_mono (Kd.R_far (p := ⟨gb164, 1, none⟩) (Kd.R_far (p := ⟨gb164, 0, none⟩) (Kd.R_types HO163.out BK164.out (by decide)) (fun _ hk => hk.2) (.int .i64 4)) (fun _ hk => hk.2) (.slice Ao6 y161.length co6)) (fun _ h_ => h_.1)))); (case side2 => exact (Kd.R_reads' HO163.out).2.1); rintro e w9 ⟨v167, rfl, ho0, hb⟩; refine ⟨_, rfl, ?_⟩; have HO168 := Aside0.mk (Kd.R_lower (Kd.R_new' ho0 (Kd.R_lt (by (with_reducible repeat (first | apply Kd.R_alloc | apply Kd.R_drewN | apply Kd.R_drew)); exact (Kd.R_mono (Kd.R_far (p := ⟨gb164, 1, none⟩) (Kd.R_far (p := ⟨gb164, 0, none⟩) (Kd.R_types HO163.out BK164.out (by decide)) (fun _ hk => hk.2) (.int .i64 4)) (fun _ hk => hk.2) (.slice Ao6 y161.length co6)) (fun _ h_ => h_.1))))) (below_size (wB1 HB.out GE164.out))); replace HO163 := Aside0.mk (Kd.R_elder' (by (with_reducible repeat (first | apply Kd.R_alloc | apply Kd.R_drewN | apply Kd.R_drew)); exact (Kd.R_mono (Kd.R_far (p := ⟨gb164, 1, none⟩) (Kd.R_far (p := ⟨gb164, 0, none⟩) (Kd.R_types HO163.out BK164.out (by decide)) (fun _ hk => hk.2) (.int .i64 4)) (fun _ hk => hk.2) (.slice Ao6 y161.length co6)) (fun _ h_ => h_.1))) (Kd.R_base ho0) hb); replace BK164 := Aside0.mk (blk_below (g := gb164) (o := .cells #[.int .i64 4, .slice Ao6 y161.length co6] 31 (0, 0)) (by (with_reducible repeat (first | refine blk_drewN ?_ _ | refine blk_drew ?_ | refine blk_alloc ?_ _)); refine blk_put (cs := #[.int .i64 4, .slice none 0 0]) ?_ 1 _ rfl; (with_reducible repeat (first | refine blk_drewN ?_ _ | refine blk_drew ?_ | refine blk_alloc ?_ _)); refine blk_put (cs := #[.int .i64 0, .slice none 0 0]) ?_ 0 _ rfl; (with_reducible repeat (first | refine blk_drewN ?_ _ | refine blk_drew ?_ | refine blk_alloc ?_ _)); exact BK164.out) hb); replace HB := Aside0.mk (below_step (wB1 HB.out GE164.out) hb); (try clear hb); (try clear hb2); (try clear hk); (try clear hi); (try clear ho0)) | ((with_reducible refine gate_dst (N := 2) rfl ?_); (try (refine gate_guard (by rfl) ?_; dsimp only)); refine box_event ?hg (N := 2) ?hd (cs := #[.int .i64 0, .slice none 0 0]) (t := 31) ?hr ?_; (case hd => rfl); (case hg => rfl); (case hr => first | (go_simp; done) | (go_simp; rfl)); intro gb169 hg w10 hbox hb; replace HO163 := Aside0.mk (Kd.R_below (rA HO163.out) hb); replace HO168 := Aside0.mk (Kd.R_below (rA HO168.out) hb); have BK169 := Aside0.mk (hbox); have GW169 := Aside0.mk ((by rw [hg]; exact (below_size (wB1 HB.out GE164.out)) : w.heap.size ≤ gb169)); have GE169 := Aside0.mk ((by rw [hg]; exact (below_size (wB1 HB.out GE164.out)) : w.heap.size ≤ gb169)); replace HB := Aside0.mk (below_step (wB1 HB.out GE164.out) hb); have NB164_169 := Aside0.mk ((by rw [hg]; exact Nat.ne_of_lt (blk_lt (g := gb164) (o := .cells #[.int .i64 4, .slice Ao6 y161.length co6] 31 (0, 0)) (bA BK164.out)) : gb164 ≠ gb169)); have NB169_164 := Aside0.mk ((by rw [hg]; exact Nat.ne_of_gt (blk_lt (g := gb164) (o := .cells #[.int .i64 4, .slice Ao6 y161.length co6] 31 (0, 0)) (bA BK164.out)) : gb169 ≠ gb164)); replace BK164 := Aside0.mk (blk_below (g := gb164) (o := .cells #[.int .i64 4, .slice Ao6 y161.length co6] 31 (0, 0)) (bA BK164.out) hb); clear hb hbox hg; have hnb11 := NB169_164.out; have hnc11 := NB164_169.out; have hcz12_0 : w10.cell? ⟨gb169, 0, none⟩ = some (.int .i64 0) := (blk_cell BK169.out 0).trans rfl; have hcz12_1 : w10.cell? ⟨gb169, 1, none⟩ = some (.slice none 0 0) := (blk_cell BK169.out 1).trans rfl; have hfz12_0 := blk_frozen BK169.out 0; have hfz12_1 := blk_frozen BK169.out 1; obtain ⟨Ao13, co13, eo13⟩ := Kd.R_slice HO168.out; subst eo13; have hcz14_0 : w10.cell? ⟨gb164, 0, none⟩ = some (.int .i64 4) := (blk_cell BK164.out 0).trans rfl; have hcz14_1 : w10.cell? ⟨gb164, 1, none⟩ = some (.slice Ao6 y161.length co6) := (blk_cell BK164.out 1).trans rfl; have hfz14_0 := blk_frozen BK164.out 0; have hfz14_1 := blk_frozen BK164.out 1) | ((with_reducible refine gate_callee (f := 32) rfl ?_); refine goesL_ (some 12) rfl rfl Try.func32 (by kernel_rfl) rfl #[.agg #[.int .i64 4, .slice Ao6 y161.length co6], .int .i64 1, .int .i64 1] rfl (by (try simp only [List.map_toArray, List.map_cons, List.map_nil]); first | done | rfl | (simp only [List.length_drop, List.length_take]; rfl)) ?_; (with_reducible refine (wireloomref05_With.calls 4 _ _ y161 1 1 t170 t171 _ ?side1 ?side2 A2.out).mono ?_); (case side1 => refine (Kd.R_reads' (e := 55) (base := w.heap.size) (ok := fun k_ => (True ∧ some k_ ≠ (.slice Ao13 t166.length co13 : Value).ownBlock)) (n := y161.length) (c := co6) ?_).2.2; exact (by (with_reducible repeat (first | apply Kd.R_alloc | apply Kd.R_drewN | apply Kd.R_drew)); exact (Kd.R_mono (Kd.R_far (p := ⟨gb169, 1, none⟩) (Kd.R_far (p := ⟨gb169, 0, none⟩) (Kd.R_types HO163.out BK169.out (by decide)) (fun _ hk => hk.2) (.int .i64 t165)) (fun _ hk => hk.2) (.slice Ao13 t166.length co13)) (fun _ h_ => h_.1)))); (case side2 => exact (Kd.R_reads' HO163.out).2.1); rintro e w15 ⟨v172, rfl, ho0, hb⟩; refine ⟨_, rfl, ?_⟩; have HO173 := Aside0.mk (Kd.R_lower (Kd.R_new' (Kd.R_new' ho0 (Kd.R_lt (by (with_reducible repeat (first | apply Kd.R_alloc | apply Kd.R_drewN | apply Kd.R_drew)); exact (Kd.R_mono (Kd.R_far (p := ⟨gb169, 1, none⟩) (Kd.R_far (p := ⟨gb169, 0, none⟩) (Kd.R_types HO163.out BK169.out (by decide)) (fun _ hk => hk.2) (.int .i64 t165)) (fun _ hk => hk.2) (.slice Ao13 t166.length co13)) (fun _ h_ => h_.1))))) (Kd.R_lt (by (with_reducible repeat (first | apply Kd.R_alloc | apply Kd.R_drewN | apply Kd.R_drew)); exact (Kd.R_mono (Kd.R_far (p := ⟨gb169, 1, none⟩) (Kd.R_far (p := ⟨gb169, 0, none⟩) (Kd.R_types HO168.out BK169.out (by decide)) (fun _ hk => hk.2) (.int .i64 t165)) (fun _ hk => hk.2) (.slice Ao13 t166.length co13)) (fun _ h_ => h_.1))))) (below_size (wB2 HB.out GE164.out GE169.out))); replace HO163 := Aside0.mk (Kd.R_elder' (by (with_reducible repeat (first | apply Kd.R_alloc | apply Kd.R_drewN | apply Kd.R_drew)); exact (Kd.R_mono (Kd.R_far (p := ⟨gb169, 1, none⟩) (Kd.R_far (p := ⟨gb169, 0, none⟩) (Kd.R_types HO163.out BK169.out (by decide)) (fun _ hk => hk.2) (.int .i64 t165)) (fun _ hk => hk.2) (.slice Ao13 t166.length co13)) (fun _ h_ => h_.1))) (Kd.R_base ho0) hb); replace HO168 := Aside0.mk (Kd.R_elder' (by (with_reducible repeat (first | apply Kd.R_alloc | apply Kd.R_drewN | apply Kd.R_drew)); exact (Kd.R_mono (Kd.R_far (p := ⟨gb169, 1, none⟩) (Kd.R_far (p := ⟨gb169, 0, none⟩) (Kd.R_types HO168.out BK169.out (by decide)) (fun _ hk => hk.2) (.int .i64 t165)) (fun _ hk => hk.2) (.slice Ao13 t166.length co13)) (fun _ h_ => h_.1))) (Kd.R_base ho0) hb); replace BK164 := Aside0.mk (blk_below (g := gb164) (o := .cells #[.int .i64 4, .slice Ao6 y161.length co6] 31 (0, 0)) (by (with_reducible repeat (first | refine blk_drewN ?_ _ | refine blk_drew ?_ | refine blk_alloc ?_ _)); refine blk_far ?_ NB164_169.out _; (with_reducible repeat (first | refine blk_drewN ?_ _ | refine blk_drew ?_ | refine blk_alloc ?_ _)); refine blk_far ?_ NB164_169.out _; (with_reducible repeat (first | refine blk_drewN ?_ _ | refine blk_drew ?_ | refine blk_alloc ?_ _)); exact BK164.out) hb); replace BK169 := Aside0.mk (blk_below (g := gb169) (o := .cells #[.int .i64 t165, .slice Ao13 t166.length co13] 31 (0, 0)) (by (with_reducible repeat (first | refine blk_drewN ?_ _ | refine blk_drew ?_ | refine blk_alloc ?_ _)); refine blk_put (cs := #[.int .i64 t165, .slice none 0 0]) ?_ 1 _ rfl; (with_reducible repeat (first | refine blk_drewN ?_ _ | refine blk_drew ?_ | refine blk_alloc ?_ _)); refine blk_put (cs := #[.int .i64 0, .slice none 0 0]) ?_ 0 _ rfl; (with_reducible repeat (first | refine blk_drewN ?_ _ | refine blk_drew ?_ | refine blk_alloc ?_ _)); exact BK169.out) hb); replace HB := Aside0.mk (below_step (wB2 HB.out GE164.out GE169.out) hb); (try clear hb); (try clear hb2); (try clear hk); (try clear hi); (try clear ho0)) | ((with_reducible refine gate_dst (N := 3) rfl ?_); (try (refine gate_guard (by rfl) ?_; dsimp only)); refine box_event ?hg (N := 3) ?hd (cs := #[.int .i64 0, .slice none 0 0]) (t := 31) ?hr ?_; (case hd => rfl); (case hg => rfl); (case hr => first | (go_simp; done) | (go_simp; rfl)); intro gb174 hg w16 hbox hb; replace HO163 := Aside0.mk (Kd.R_below (rA HO163.out) hb); replace HO168 := Aside0.mk (Kd.R_below (rA HO168.out) hb); replace HO173 := Aside0.mk (Kd.R_below (rA HO173.out) hb); have BK174 := Aside0.mk (hbox); have GW174 := Aside0.mk ((by rw [hg]; exact (below_size (wB2 HB.out GE164.out GE169.out)) : w.heap.size ≤ gb174)); have GE174 := Aside0.mk ((by rw [hg]; exact (below_size (wB2 HB.out GE164.out GE169.out)) : w.heap.size ≤ gb174)); replace HB := Aside0.mk (below_step (wB2 HB.out GE164.out GE169.out) hb); have NB164_174 := Aside0.mk ((by rw [hg]; exact Nat.ne_of_lt (blk_lt (g := gb164) (o := .cells #[.int .i64 4, .slice Ao6 y161.length co6] 31 (0, 0)) (bA BK164.out)) : gb164 ≠ gb174)); have NB174_164 := Aside0.mk ((by rw [hg]; exact Nat.ne_of_gt (blk_lt (g := gb164) (o := .cells #[.int .i64 4, .slice Ao6 y161.length co6] 31 (0, 0)) (bA BK164.out)) : gb174 ≠ gb164)); replace BK164 := Aside0.mk (blk_below (g := gb164) (o := .cells #[.int .i64 4, .slice Ao6 y161.length co6] 31 (0, 0)) (bA BK164.out) hb); have NB169_174 := Aside0.mk ((by rw [hg]; exact Nat.ne_of_lt (blk_lt (g := gb169) (o := .cells #[.int .i64 t165, .slice Ao13 t166.length co13] 31 (0, 0)) (bA BK169.out)) : gb169 ≠ gb174)); have NB174_169 := Aside0.mk ((by rw [hg]; exact Nat.ne_of_gt (blk_lt (g := gb169) (o := .cells #[.int .i64 t165, .slice Ao13 t166.length co13] 31 (0, 0)) (bA BK169.out)) : gb174 ≠ gb169)); replace BK169 := kC BK169 hb; clear hb hbox hg; have hnb17 := NB174_164.out; have hnc17 := NB164_174.out; have hnb18 := NB174_169.out; have hnc18 := NB169_174.out; have hcz19_0 : w16.cell? ⟨gb174, 0, none⟩ = some (.int .i64 0) := (blk_cell BK174.out 0).trans rfl; have hcz19_1 : w16.cell? ⟨gb174, 1, none⟩ = some (.slice none 0 0) := (blk_cell BK174.out 1).trans rfl; have hfz19_0 := blk_frozen BK174.out 0; have hfz19_1 := blk_frozen BK174.out 1; obtain ⟨Ao20, co20, eo20⟩ := Kd.R_slice HO173.out; subst eo20))
 (try simp only [Act.put, List.setIfInBounds_toArray, List.set_cons_zero, List.set_cons_succ])
 go_cut [40] (fun v40 wc => ∃ (kq : Nat) (x40_2 : Bool), v40 = .bool x40_2 ∧ Aside0 (wireloomlaw05_examples.j0 kq x40_2 4 y161 t165 t166 t170 t171 = some r) ∧ Aside0 (kq ≤ k) ∧ Aside0 (Kd.R k55 55 wc w.heap.size (fun k_ => some k_ ≠ ((.slice Ao13 t166.length co13) : Value).ownBlock ∧ some k_ ≠ ((.slice Ao20 t171.length co20) : Value).ownBlock) (.slice Ao6 y161.length co6) y161) ∧ Aside0 (Kd.R k55 55 wc w.heap.size (fun k_ => some k_ ≠ ((.slice Ao6 y161.length co6) : Value).ownBlock ∧ some k_ ≠ ((.slice Ao20 t171.length co20) : Value).ownBlock) (.slice Ao13 t166.length co13) t166) ∧ Aside0 (Kd.R k55 55 wc w.heap.size (fun k_ => some k_ ≠ ((.slice Ao6 y161.length co6) : Value).ownBlock ∧ some k_ ≠ ((.slice Ao13 t166.length co13) : Value).ownBlock) (.slice Ao20 t171.length co20) t171) ∧ Aside0 (wc.heap[gb164]? = some (.cells #[.int .i64 4, (.slice Ao6 y161.length co6)] 31 (0, 0))) ∧ Aside0 (wc.heap[gb169]? = some (.cells #[.int .i64 t165, (.slice Ao13 t166.length co13)] 31 (0, 0))) ∧ Aside0 (wc.heap[gb174]? = some (.cells #[.int .i64 t170, (.slice Ao20 t171.length co20)] 31 (0, 0))) ∧ Aside0 (Below w.heap.size w wc))
 case first =>
  have H := HC3.out
  clear HC3
  replace H := Option.bind_eq_some_iff.mp H
  obtain ⟨⟨t175, t178⟩, A210, H⟩ := H
  replace H : ((wireloomref05_Alike.f k t175 t178 (([1, 2, 0, 3] : List Int)) 0).bind fun t182 => (if t182 = true then ((wireloomlaw05_depth.f 4 y161).bind fun bt183 => ((wireloomref05_Alike.f k bt183.1 bt183.2 (([1, 0, 0, 2] : List Int)) 0).bind fun t190 => (if t190 = true then ((digraph_Reach.f 4 y161 2).bind fun t191 => ((wireloomref05_Same.f k t191 (([0, 2, 3] : List Int))).bind fun t197 => (if t197 = true then ((wireloomlaw05_cycle.f 4 y161).bind fun bt198 => (wireloomlaw05_examples.j0 k (bt198.2 != 4) 4 y161 t165 t166 t170 t171)) else (wireloomlaw05_examples.j0 k true 4 y161 t165 t166 t170 t171)))) else (none)))) else (none))) = some r := H
  have A21 := Aside0.mk A210
  clear A210
  obtain ⟨y179, hy179⟩ : ∃ y_ : List Int, y_ = (([1, 2, 0, 3] : List Int)) := ⟨_, rfl⟩
  replace H : ((wireloomref05_Alike.f k t175 t178 y179 0).bind fun t182 => (if t182 = true then ((wireloomlaw05_depth.f 4 y161).bind fun bt183 => ((wireloomref05_Alike.f k bt183.1 bt183.2 (([1, 0, 0, 2] : List Int)) 0).bind fun t190 => (if t190 = true then ((digraph_Reach.f 4 y161 2).bind fun t191 => ((wireloomref05_Same.f k t191 (([0, 2, 3] : List Int))).bind fun t197 => (if t197 = true then ((wireloomlaw05_cycle.f 4 y161).bind fun bt198 => (wireloomlaw05_examples.j0 k (bt198.2 != 4) 4 y161 t165 t166 t170 t171)) else (wireloomlaw05_examples.j0 k true 4 y161 t165 t166 t170 t171)))) else (none)))) else (none))) = some r := by first | (rw [hy179]; with_reducible exact H) | (have H2_ := (Option.bind_some _ _).symm.trans H; rw [hy179]; with_reducible exact H2_) | (have H2_ := (Option.bind_some _ _).symm.trans H; with_reducible exact H2_) | with_reducible exact H | (rw [hy179]; exact H) | exact H
  have Ny179 := Aside0.mk hy179
  clear hy179
  replace H := Option.bind_eq_some_iff.mp H
  obtain ⟨t182, A220, H⟩ := H
  replace H : (if t182 = true then ((wireloomlaw05_depth.f 4 y161).bind fun bt183 => ((wireloomref05_Alike.f k bt183.1 bt183.2 (([1, 0, 0, 2] : List Int)) 0).bind fun t190 => (if t190 = true then ((digraph_Reach.f 4 y161 2).bind fun t191 => ((wireloomref05_Same.f k t191 (([0, 2, 3] : List Int))).bind fun t197 => (if t197 = true then ((wireloomlaw05_cycle.f 4 y161).bind fun bt198 => (wireloomlaw05_examples.j0 k (bt198.2 != 4) 4 y161 t165 t166 t170 t171)) else (wireloomlaw05_examples.j0 k true 4 y161 t165 t166 t170 t171)))) else (none)))) else (none)) = some r := H
  have A22 := Aside0.mk A220
  clear A220
  by_cases c23 : t182 = true
  ·subst c23
   have H1 : ((wireloomlaw05_depth.f 4 y161).bind fun bt183 => ((wireloomref05_Alike.f k bt183.1 bt183.2 (([1, 0, 0, 2] : List Int)) 0).bind fun t190 => (if t190 = true then ((digraph_Reach.f 4 y161 2).bind fun t191 => ((wireloomref05_Same.f k t191 (([0, 2, 3] : List Int))).bind fun t197 => (if t197 = true then ((wireloomlaw05_cycle.f 4 y161).bind fun bt198 => (wireloomlaw05_examples.j0 k (bt198.2 != 4) 4 y161 t165 t166 t170 t171)) else (wireloomlaw05_examples.j0 k true 4 y161 t165 t166 t170 t171)))) else (none)))) = some r := by rw [if_pos rfl] at H; exact H
   clear H
   have H := H1
   clear H1
   replace H := Option.bind_eq_some_iff.mp H
   obtain ⟨⟨t183, t186⟩, A240, H⟩ := H
   replace H : ((wireloomref05_Alike.f k t183 t186 (([1, 0, 0, 2] : List Int)) 0).bind fun t190 => (if t190 = true then ((digraph_Reach.f 4 y161 2).bind fun t191 => ((wireloomref05_Same.f k t191 (([0, 2, 3] : List Int))).bind fun t197 => (if t197 = true then ((wireloomlaw05_cycle.f 4 y161).bind fun bt198 => (wireloomlaw05_examples.j0 k (bt198.2 != 4) 4 y161 t165 t166 t170 t171)) else (wireloomlaw05_examples.j0 k true 4 y161 t165 t166 t170 t171)))) else (none))) = some r := H
   have A24 := Aside0.mk A240
   clear A240
   obtain ⟨y187, hy187⟩ : ∃ y_ : List Int, y_ = (([1, 0, 0, 2] : List Int)) := ⟨_, rfl⟩
   replace H : ((wireloomref05_Alike.f k t183 t186 y187 0).bind fun t190 => (if t190 = true then ((digraph_Reach.f 4 y161 2).bind fun t191 => ((wireloomref05_Same.f k t191 (([0, 2, 3] : List Int))).bind fun t197 => (if t197 = true then ((wireloomlaw05_cycle.f 4 y161).bind fun bt198 => (wireloomlaw05_examples.j0 k (bt198.2 != 4) 4 y161 t165 t166 t170 t171)) else (wireloomlaw05_examples.j0 k true 4 y161 t165 t166 t170 t171)))) else (none))) = some r := by first | (rw [hy187]; with_reducible exact H) | (have H2_ := (Option.bind_some _ _).symm.trans H; rw [hy187]; with_reducible exact H2_) | (have H2_ := (Option.bind_some _ _).symm.trans H; with_reducible exact H2_) | with_reducible exact H | (rw [hy187]; exact H) | exact H
   have Ny187 := Aside0.mk hy187
   clear hy187
   replace H := Option.bind_eq_some_iff.mp H
   obtain ⟨t190, A250, H⟩ := H
   replace H : (if t190 = true then ((digraph_Reach.f 4 y161 2).bind fun t191 => ((wireloomref05_Same.f k t191 (([0, 2, 3] : List Int))).bind fun t197 => (if t197 = true then ((wireloomlaw05_cycle.f 4 y161).bind fun bt198 => (wireloomlaw05_examples.j0 k (bt198.2 != 4) 4 y161 t165 t166 t170 t171)) else (wireloomlaw05_examples.j0 k true 4 y161 t165 t166 t170 t171)))) else (none)) = some r := H
   have A25 := Aside0.mk A250
   clear A250
   by_cases c26 : t190 = true
   ·subst c26
    have H1 : ((digraph_Reach.f 4 y161 2).bind fun t191 => ((wireloomref05_Same.f k t191 (([0, 2, 3] : List Int))).bind fun t197 => (if t197 = true then ((wireloomlaw05_cycle.f 4 y161).bind fun bt198 => (wireloomlaw05_examples.j0 k (bt198.2 != 4) 4 y161 t165 t166 t170 t171)) else (wireloomlaw05_examples.j0 k true 4 y161 t165 t166 t170 t171)))) = some r := by rw [if_pos rfl] at H; exact H
    clear H
    have H := H1
    clear H1
    replace H := Option.bind_eq_some_iff.mp H
    obtain ⟨t191, A270, H⟩ := H
    replace H : ((wireloomref05_Same.f k t191 (([0, 2, 3] : List Int))).bind fun t197 => (if t197 = true then ((wireloomlaw05_cycle.f 4 y161).bind fun bt198 => (wireloomlaw05_examples.j0 k (bt198.2 != 4) 4 y161 t165 t166 t170 t171)) else (wireloomlaw05_examples.j0 k true 4 y161 t165 t166 t170 t171))) = some r := H
    have A27 := Aside0.mk A270
    clear A270
    obtain ⟨y194, hy194⟩ : ∃ y_ : List Int, y_ = (([0, 2, 3] : List Int)) := ⟨_, rfl⟩
    replace H : ((wireloomref05_Same.f k t191 y194).bind fun t197 => (if t197 = true then ((wireloomlaw05_cycle.f 4 y161).bind fun bt198 => (wireloomlaw05_examples.j0 k (bt198.2 != 4) 4 y161 t165 t166 t170 t171)) else (wireloomlaw05_examples.j0 k true 4 y161 t165 t166 t170 t171))) = some r := by first | (rw [hy194]; with_reducible exact H) | (have H2_ := (Option.bind_some _ _).symm.trans H; rw [hy194]; with_reducible exact H2_) | (have H2_ := (Option.bind_some _ _).symm.trans H; with_reducible exact H2_) | with_reducible exact H | (rw [hy194]; exact H) | exact H
    have Ny194 := Aside0.mk hy194
    clear hy194
    replace H := Option.bind_eq_some_iff.mp H
    obtain ⟨t197, A280, H⟩ := H
    replace H : (if t197 = true then ((wireloomlaw05_cycle.f 4 y161).bind fun bt198 => (wireloomlaw05_examples.j0 k (bt198.2 != 4) 4 y161 t165 t166 t170 t171)) else (wireloomlaw05_examples.j0 k true 4 y161 t165 t166 t170 t171)) = some r := H
    have A28 := Aside0.mk A280
    clear A280
    by_cases c29 : t197 = true
    ·subst c29
     have H1 : ((wireloomlaw05_cycle.f 4 y161).bind fun bt198 => (wireloomlaw05_examples.j0 k (bt198.2 != 4) 4 y161 t165 t166 t170 t171)) = some r := by rw [if_pos rfl] at H; exact H
     clear H
     have H := H1
     clear H1
     replace H := Option.bind_eq_some_iff.mp H
     obtain ⟨⟨t198, t201⟩, A300, H⟩ := H
     replace H : (wireloomlaw05_examples.j0 k (t201 != 4) 4 y161 t165 t166 t170 t171) = some r := H
     have A30 := Aside0.mk A300
     clear A300
     have H' := Aside0.mk H
     clear H
     have hnb31 := NB164_169.out
     have hnc31 := NB169_164.out
     have hnb32 := NB164_174.out
     have hnc32 := NB174_164.out
     have hcz33_0 : w16.cell? ⟨gb164, 0, none⟩ = some (.int .i64 4) := (blk_cell BK164.out 0).trans rfl
     have hcz33_1 : w16.cell? ⟨gb164, 1, none⟩ = some (.slice Ao6 y161.length co6) := (blk_cell BK164.out 1).trans rfl
     have hfz33_0 := blk_frozen BK164.out 0
     have hfz33_1 := blk_frozen BK164.out 1
     go_wp2_with (first | ((with_reducible refine gate_callee (f := 15) rfl ?_); refine goesL_ (some 14) rfl rfl Try.func15 (by kernel_rfl) rfl #[.agg #[.int .i64 4, .slice Ao6 y161.length co6]] rfl (by (try simp only [List.map_toArray, List.map_cons, List.map_nil]); first | done | rfl | (simp only [List.length_drop, List.length_take]; rfl)) ?_; (with_reducible refine (wireloomlaw05_order.calls 4 _ _ y161 t175 t178 _ ?side1 ?side2 A21.out).mono ?_); (case side1 => refine (Kd.R_reads' (e := 55) (base := w.heap.size) (ok := fun k_ => ((True ∧ some k_ ≠ (.slice Ao13 t166.length co13 : Value).ownBlock) ∧ some k_ ≠ (.slice Ao20 t171.length co20 : Value).ownBlock)) (n := y161.length) (c := co6) ?_).2.2; exact (by (with_reducible repeat (first | apply Kd.R_alloc | apply Kd.R_drewN | apply Kd.R_drew)); exact (Kd.R_mono (Kd.R_far (p := ⟨gb174, 1, none⟩) (Kd.R_far (p := ⟨gb174, 0, none⟩) (Kd.R_types HO163.out BK174.out (by decide)) (fun _ hk => hk.2) (.int .i64 t170)) (fun _ hk => hk.2) (.slice Ao20 t171.length co20)) (fun _ h_ => h_.1)))); (case side2 => exact (Kd.R_reads' HO163.out).2.1); rintro e w34 ⟨v176, rfl, ho0, hb⟩; refine ⟨_, rfl, ?_⟩; replace HO163 := Aside0.mk (Kd.R_below (by (with_reducible repeat (first | apply Kd.R_alloc | apply Kd.R_drewN | apply Kd.R_drew)); exact (Kd.R_mono (Kd.R_far (p := ⟨gb174, 1, none⟩) (Kd.R_far (p := ⟨gb174, 0, none⟩) (Kd.R_types HO163.out BK174.out (by decide)) (fun _ hk => hk.2) (.int .i64 t170)) (fun _ hk => hk.2) (.slice Ao20 t171.length co20)) (fun _ h_ => h_.1))) hb); replace HO168 := Aside0.mk (Kd.R_below (by (with_reducible repeat (first | apply Kd.R_alloc | apply Kd.R_drewN | apply Kd.R_drew)); exact (Kd.R_mono (Kd.R_far (p := ⟨gb174, 1, none⟩) (Kd.R_far (p := ⟨gb174, 0, none⟩) (Kd.R_types HO168.out BK174.out (by decide)) (fun _ hk => hk.2) (.int .i64 t170)) (fun _ hk => hk.2) (.slice Ao20 t171.length co20)) (fun _ h_ => h_.1))) hb); replace HO173 := Aside0.mk (Kd.R_below (by (with_reducible repeat (first | apply Kd.R_alloc | apply Kd.R_drewN | apply Kd.R_drew)); exact (Kd.R_mono (Kd.R_far (p := ⟨gb174, 1, none⟩) (Kd.R_far (p := ⟨gb174, 0, none⟩) (Kd.R_types HO173.out BK174.out (by decide)) (fun _ hk => hk.2) (.int .i64 t170)) (fun _ hk => hk.2) (.slice Ao20 t171.length co20)) (fun _ h_ => h_.1))) hb); have HO177 := Aside0.mk (Kd.R_lower ho0 (below_size (wB3 HB.out GE164.out GE169.out GE174.out))); replace BK164 := Aside0.mk (blk_below (g := gb164) (o := .cells #[.int .i64 4, .slice Ao6 y161.length co6] 31 (0, 0)) (by (with_reducible repeat (first | refine blk_drewN ?_ _ | refine blk_drew ?_ | refine blk_alloc ?_ _)); refine blk_far ?_ NB164_174.out _; (with_reducible repeat (first | refine blk_drewN ?_ _ | refine blk_drew ?_ | refine blk_alloc ?_ _)); refine blk_far ?_ NB164_174.out _; (with_reducible repeat (first | refine blk_drewN ?_ _ | refine blk_drew ?_ | refine blk_alloc ?_ _)); exact BK164.out) hb); replace BK169 := Aside0.mk (blk_below (g := gb169) (o := .cells #[.int .i64 t165, .slice Ao13 t166.length co13] 31 (0, 0)) (by (with_reducible repeat (first | refine blk_drewN ?_ _ | refine blk_drew ?_ | refine blk_alloc ?_ _)); refine blk_far ?_ NB169_174.out _; (with_reducible repeat (first | refine blk_drewN ?_ _ | refine blk_drew ?_ | refine blk_alloc ?_ _)); refine blk_far ?_ NB169_174.out _; (with_reducible repeat (first | refine blk_drewN ?_ _ | refine blk_drew ?_ | refine blk_alloc ?_ _)); exact BK169.out) hb); replace BK174 := Aside0.mk (blk_below (g := gb174) (o := .cells #[.int .i64 t170, .slice Ao20 t171.length co20] 31 (0, 0)) (by (with_reducible repeat (first | refine blk_drewN ?_ _ | refine blk_drew ?_ | refine blk_alloc ?_ _)); refine blk_put (cs := #[.int .i64 t170, .slice none 0 0]) ?_ 1 _ rfl; (with_reducible repeat (first | refine blk_drewN ?_ _ | refine blk_drew ?_ | refine blk_alloc ?_ _)); refine blk_put (cs := #[.int .i64 0, .slice none 0 0]) ?_ 0 _ rfl; (with_reducible repeat (first | refine blk_drewN ?_ _ | refine blk_drew ?_ | refine blk_alloc ?_ _)); exact BK174.out) hb); replace HB := Aside0.mk (below_step (wB3 HB.out GE164.out GE169.out GE174.out) hb); (try clear hb); (try clear hb2); (try clear hk); (try clear hi); (try clear ho0)) | ((with_reducible refine gate_dst (N := 15) rfl ?_); (try (refine gate_guard (by rfl) ?_; dsimp only)); refine Kd.R_lit (Kd.int .i64) _ 3 ?hg (N := 15) ?hd (xs := ([1, 2, 0, 3] : List Int)) (inner := [.int .i64 1, .int .i64 2, .int .i64 0, .int .i64 3]) (ok := fun _ => True) (okp := fun _ => True) ?hr ?hp (fun _ hk => hk) trivial (Below.refl _ _) (Nat.le_refl _) (by simp) ?_; (case hd => rfl); (case hg => rfl); (case hr => first | (go_simp; done) | (go_simp; rfl)); (case hp => exact (Reps.one (show Kd.M (Kd.int .i64) _ _ _ 1 [.int .i64 1] from rfl) (Reps.one (show Kd.M (Kd.int .i64) _ _ _ 2 [.int .i64 2] from rfl) (Reps.one (show Kd.M (Kd.int .i64) _ _ _ 0 [.int .i64 0] from rfl) (Reps.one (show Kd.M (Kd.int .i64) _ _ _ 3 [.int .i64 3] from rfl) (Reps.none _ _)))))); intro v180 w35 ho36 hb hg_ hnew_; clear hg_ hnew_; (first | rw [← Ny179.out] at ho36 | (simp only [Int.reduceToNat] at ho36; rw [← Ny179.out] at ho36)); replace HO163 := Aside0.mk (Kd.R_below (rA HO163.out) hb); replace HO168 := Aside0.mk (Kd.R_below (rA HO168.out) hb); replace HO173 := Aside0.mk (Kd.R_below (rA HO173.out) hb); have HO181 := Aside0.mk (Kd.R_lower (Kd.R_new' ho36 (Kd.R_lt (rA HO177.out))) (below_size (wB3 HB.out GE164.out GE169.out GE174.out))); replace HO177 := Aside0.mk (Kd.R_elder' (rA HO177.out) (Kd.R_base ho36) hb); replace BK164 := Aside0.mk (blk_below (g := gb164) (o := .cells #[.int .i64 4, .slice Ao6 y161.length co6] 31 (0, 0)) (bA BK164.out) hb); replace BK169 := kC BK169 hb; replace BK174 := kC BK174 hb; replace HB := Aside0.mk (below_step (wB3 HB.out GE164.out GE169.out GE174.out) hb); clear hb ho36; obtain ⟨Ao37, co37, eo37⟩ := Kd.R_slice HO181.out; subst eo37; obtain ⟨Ao38, co38, eo38⟩ := Kd.R_slice HO177.out; subst eo38) | ((with_reducible refine gate_callee (f := 14) rfl ?_); refine goesL_ (some 17) rfl rfl Try.func14 (by kernel_rfl) rfl #[.agg #[.slice Ao38 t175.length co38, .int .i64 t178], .agg #[.slice Ao37 y179.length co37, .int .i64 0]] rfl (by (try simp only [List.map_toArray, List.map_cons, List.map_nil]); first | done | rfl | (simp only [List.length_drop, List.length_take]; rfl)) ?_; (with_reducible refine (wireloomref05_Alike.calls k _ _ t175 t178 _ _ y179 0 true _ ?side1 ?side2 ?side3 ?side4 A22.out).mono ?_); (case side1 => exact cA (Kd.R_reads' HO177.out).2.2); (case side2 => exact (Kd.R_reads' HO177.out).2.1); (case side3 => exact cA (Kd.R_reads' HO181.out).2.2); (case side4 => exact (Kd.R_reads' HO181.out).2.1); rintro e w39 ⟨rfl, hb⟩; refine ⟨_, rfl, ?_⟩; replace HO163 := Aside0.mk (Kd.R_below (rA HO163.out) hb); replace HO168 := Aside0.mk (Kd.R_below (rA HO168.out) hb); replace HO173 := Aside0.mk (Kd.R_below (rA HO173.out) hb); replace HO177 := Aside0.mk (Kd.R_below (rA HO177.out) hb); replace HO181 := Aside0.mk (Kd.R_below (rA HO181.out) hb); replace BK164 := kC BK164 hb; replace BK169 := kC BK169 hb; replace BK174 := kC BK174 hb; replace HB := Aside0.mk (below_step (wB3 HB.out GE164.out GE169.out GE174.out) hb); (try clear hb); (try clear hb2); (try clear hk); (try clear hi); have hcz40_0 : w39.cell? ⟨gb164, 0, none⟩ = some (.int .i64 4) := (blk_cell BK164.out 0).trans rfl; have hcz40_1 : w39.cell? ⟨gb164, 1, none⟩ = some (.slice Ao6 y161.length co6) := (blk_cell BK164.out 1).trans rfl; have hfz40_0 := blk_frozen BK164.out 0; have hfz40_1 := blk_frozen BK164.out 1) | (go_at_call 19; (with_reducible refine (wireloomlaw05_depth.calls 4 _ _ y161 t183 t186 _ ?side1 ?side2 A24.out).mono ?_); (case side1 => exact cA (Kd.R_reads' HO163.out).2.2); (case side2 => exact (Kd.R_reads' HO163.out).2.1); rintro e w41 ⟨v184, rfl, ho0, hb⟩; replace HO163 := Aside0.mk (Kd.R_below (rA HO163.out) hb); replace HO168 := Aside0.mk (Kd.R_below (rA HO168.out) hb); replace HO173 := Aside0.mk (Kd.R_below (rA HO173.out) hb); have HO185 := Aside0.mk (Kd.R_lower (Kd.R_new' (Kd.R_new' ho0 (Kd.R_lt (rA HO177.out))) (Kd.R_lt (rA HO181.out))) (below_size (wB3 HB.out GE164.out GE169.out GE174.out))); replace HO177 := Aside0.mk (Kd.R_elder' (rA HO177.out) (Kd.R_base ho0) hb); replace HO181 := Aside0.mk (Kd.R_elder' (rA HO181.out) (Kd.R_base ho0) hb); replace BK164 := kC BK164 hb; replace BK169 := kC BK169 hb; replace BK174 := kC BK174 hb; replace HB := Aside0.mk (below_step (wB3 HB.out GE164.out GE169.out GE174.out) hb); (try clear hb); (try clear hb2); (try clear hk); (try clear hi); (try clear ho0)) | ((with_reducible refine gate_dst (N := 22) rfl ?_); (try (refine gate_guard (by rfl) ?_; dsimp only)); refine Kd.R_lit (Kd.int .i64) _ 3 ?hg (N := 22) ?hd (xs := ([1, 0, 0, 2] : List Int)) (inner := [.int .i64 1, .int .i64 0, .int .i64 0, .int .i64 2]) (ok := fun _ => True) (okp := fun _ => True) ?hr ?hp (fun _ hk => hk) trivial (Below.refl _ _) (Nat.le_refl _) (by simp) ?_; (case hd => rfl); (case hg => rfl); (case hr => first | (go_simp; done) | (go_simp; rfl)); (case hp => exact (Reps.one (show Kd.M (Kd.int .i64) _ _ _ 1 [.int .i64 1] from rfl) (Reps.one (show Kd.M (Kd.int .i64) _ _ _ 0 [.int .i64 0] from rfl) (Reps.one (show Kd.M (Kd.int .i64) _ _ _ 0 [.int .i64 0] from rfl) (Reps.one (show Kd.M (Kd.int .i64) _ _ _ 2 [.int .i64 2] from rfl) (Reps.none _ _)))))); intro v188 w42 ho43 hb hg_ hnew_; clear hg_ hnew_; (first | rw [← Ny187.out] at ho43 | (simp only [Int.reduceToNat] at ho43; rw [← Ny187.out] at ho43)); replace HO163 := Aside0.mk (Kd.R_below (rA HO163.out) hb); replace HO168 := Aside0.mk (Kd.R_below (rA HO168.out) hb); replace HO173 := Aside0.mk (Kd.R_below (rA HO173.out) hb); have HO189 := Aside0.mk (Kd.R_lower (Kd.R_new' (Kd.R_new' (Kd.R_new' ho43 (Kd.R_lt (rA HO177.out))) (Kd.R_lt (rA HO181.out))) (Kd.R_lt (rA HO185.out))) (below_size (wB3 HB.out GE164.out GE169.out GE174.out))); replace HO177 := Aside0.mk (Kd.R_elder' (rA HO177.out) (Kd.R_base ho43) hb); replace HO181 := Aside0.mk (Kd.R_elder' (rA HO181.out) (Kd.R_base ho43) hb); replace HO185 := Aside0.mk (Kd.R_elder' (rA HO185.out) (Kd.R_base ho43) hb); replace BK164 := kC BK164 hb; replace BK169 := kC BK169 hb; replace BK174 := kC BK174 hb; replace HB := Aside0.mk (below_step (wB3 HB.out GE164.out GE169.out GE174.out) hb); clear hb ho43; obtain ⟨Ao44, co44, eo44⟩ := Kd.R_slice HO189.out; subst eo44; obtain ⟨Ao45, co45, eo45⟩ := Kd.R_slice HO185.out; subst eo45) | (go_at_call 14; (with_reducible refine (wireloomref05_Alike.calls k _ _ t183 t186 _ _ y187 0 true _ ?side1 ?side2 ?side3 ?side4 A25.out).mono ?_); (case side1 => exact cA (Kd.R_reads' HO185.out).2.2); (case side2 => exact (Kd.R_reads' HO185.out).2.1); (case side3 => exact cA (Kd.R_reads' HO189.out).2.2); (case side4 => exact (Kd.R_reads' HO189.out).2.1); rintro e w46 ⟨rfl, hb⟩; replace HO163 := Aside0.mk (Kd.R_below (rA HO163.out) hb); replace HO168 := Aside0.mk (Kd.R_below (rA HO168.out) hb); replace HO173 := Aside0.mk (Kd.R_below (rA HO173.out) hb); replace HO177 := Aside0.mk (Kd.R_below (rA HO177.out) hb); replace HO181 := Aside0.mk (Kd.R_below (rA HO181.out) hb); replace HO185 := Aside0.mk (Kd.R_below (rA HO185.out) hb); replace HO189 := Aside0.mk (Kd.R_below (rA HO189.out) hb); replace BK164 := kC BK164 hb; replace BK169 := kC BK169 hb; replace BK174 := kC BK174 hb; replace HB := Aside0.mk (below_step (wB3 HB.out GE164.out GE169.out GE174.out) hb); (try clear hb); (try clear hb2); (try clear hk); (try clear hi); have hcz47_0 : w46.cell? ⟨gb164, 0, none⟩ = some (.int .i64 4) := (blk_cell BK164.out 0).trans rfl; have hcz47_1 : w46.cell? ⟨gb164, 1, none⟩ = some (.slice Ao6 y161.length co6) := (blk_cell BK164.out 1).trans rfl; have hfz47_0 := blk_frozen BK164.out 0; have hfz47_1 := blk_frozen BK164.out 1) | (go_at_call 24; (with_reducible refine (digraph_Reach.calls 4 _ _ y161 2 t191 _ ?side1 ?side2 A27.out).mono ?_); (case side1 => exact cA (Kd.R_reads' HO163.out).2.2); (case side2 => exact (Kd.R_reads' HO163.out).2.1); rintro e w48 ⟨v192, rfl, ho0, hb⟩; replace HO163 := Aside0.mk (Kd.R_below (rA HO163.out) hb); replace HO168 := Aside0.mk (Kd.R_below (rA HO168.out) hb); replace HO173 := Aside0.mk (Kd.R_below (rA HO173.out) hb); have HO193 := Aside0.mk (Kd.R_lower (Kd.R_new' (Kd.R_new' (Kd.R_new' (Kd.R_new' ho0 (Kd.R_lt (rA HO177.out))) (Kd.R_lt (rA HO181.out))) (Kd.R_lt (rA HO185.out))) (Kd.R_lt (rA HO189.out))) (below_size (wB3 HB.out GE164.out GE169.out GE174.out))); replace HO177 := Aside0.mk (Kd.R_elder' (rA HO177.out) (Kd.R_base ho0) hb); replace HO181 := Aside0.mk (Kd.R_elder' (rA HO181.out) (Kd.R_base ho0) hb); replace HO185 := Aside0.mk (Kd.R_elder' (rA HO185.out) (Kd.R_base ho0) hb); replace HO189 := Aside0.mk (Kd.R_elder' (rA HO189.out) (Kd.R_base ho0) hb); replace BK164 := kC BK164 hb; replace BK169 := kC BK169 hb; replace BK174 := kC BK174 hb; replace HB := Aside0.mk (below_step (wB3 HB.out GE164.out GE169.out GE174.out) hb); (try clear hb); (try clear hb2); (try clear hk); (try clear hi); (try clear ho0)) | ((with_reducible refine gate_dst (N := 31) rfl ?_); (try (refine gate_guard (by rfl) ?_; dsimp only)); refine Kd.R_lit (Kd.int .i64) _ 3 ?hg (N := 31) ?hd (xs := ([0, 2, 3] : List Int)) (inner := [.int .i64 0, .int .i64 2, .int .i64 3]) (ok := fun _ => True) (okp := fun _ => True) ?hr ?hp (fun _ hk => hk) trivial (Below.refl _ _) (Nat.le_refl _) (by simp) ?_; (case hd => rfl); (case hg => rfl); (case hr => first | (go_simp; done) | (go_simp; rfl)); (case hp => exact (Reps.one (show Kd.M (Kd.int .i64) _ _ _ 0 [.int .i64 0] from rfl) (Reps.one (show Kd.M (Kd.int .i64) _ _ _ 2 [.int .i64 2] from rfl) (Reps.one (show Kd.M (Kd.int .i64) _ _ _ 3 [.int .i64 3] from rfl) (Reps.none _ _))))); intro v195 w49 ho50 hb hg_ hnew_; clear hg_ hnew_; (first | rw [← Ny194.out] at ho50 | (simp only [Int.reduceToNat] at ho50; rw [← Ny194.out] at ho50)); replace HO163 := Aside0.mk (Kd.R_below (rA HO163.out) hb); replace HO168 := Aside0.mk (Kd.R_below (rA HO168.out) hb); replace HO173 := Aside0.mk (Kd.R_below (rA HO173.out) hb); have HO196 := Aside0.mk (Kd.R_lower (Kd.R_new' (Kd.R_new' (Kd.R_new' (Kd.R_new' (Kd.R_new' ho50 (Kd.R_lt (rA HO177.out))) (Kd.R_lt (rA HO181.out))) (Kd.R_lt (rA HO185.out))) (Kd.R_lt (rA HO189.out))) (Kd.R_lt (rA HO193.out))) (below_size (wB3 HB.out GE164.out GE169.out GE174.out))); replace HO177 := Aside0.mk (Kd.R_elder' (rA HO177.out) (Kd.R_base ho50) hb); replace HO181 := Aside0.mk (Kd.R_elder' (rA HO181.out) (Kd.R_base ho50) hb); replace HO185 := Aside0.mk (Kd.R_elder' (rA HO185.out) (Kd.R_base ho50) hb); replace HO189 := Aside0.mk (Kd.R_elder' (rA HO189.out) (Kd.R_base ho50) hb); replace HO193 := Aside0.mk (Kd.R_elder' (rA HO193.out) (Kd.R_base ho50) hb); replace BK164 := kC BK164 hb; replace BK169 := kC BK169 hb; replace BK174 := kC BK174 hb; replace HB := Aside0.mk (below_step (wB3 HB.out GE164.out GE169.out GE174.out) hb); clear hb ho50; obtain ⟨Ao51, co51, eo51⟩ := Kd.R_slice HO193.out; subst eo51; obtain ⟨Ao52, co52, eo52⟩ := Kd.R_slice HO196.out; subst eo52) | (go_at_call 23; (with_reducible refine (wireloomref05_Same.calls k _ _ t191 _ _ y194 true _ ?side1 ?side2 ?side3 ?side4 A28.out).mono ?_); (case side1 => exact cA (Kd.R_reads' HO193.out).2.2); (case side2 => exact (Kd.R_reads' HO193.out).2.1); (case side3 => exact cA (Kd.R_reads' HO196.out).2.2); (case side4 => exact (Kd.R_reads' HO196.out).2.1); rintro e w' ⟨rfl, ⟨nd, rfl⟩⟩; have hcz53_0 : w49.cell? ⟨gb164, 0, none⟩ = some (.int .i64 4) := (blk_cell BK164.out 0).trans rfl; have hcz53_1 : w49.cell? ⟨gb164, 1, none⟩ = some (.slice Ao6 y161.length co6) := (blk_cell BK164.out 1).trans rfl; have hfz53_0 := blk_frozen BK164.out 0; have hfz53_1 := blk_frozen BK164.out 1) | (go_at_call 17; (with_reducible refine (wireloomlaw05_cycle.calls 4 _ _ y161 t198 t201 _ ?side1 ?side2 A30.out).mono ?_); (case side1 => exact cA (Kd.R_reads' HO163.out).2.2); (case side2 => exact (Kd.R_reads' HO163.out).2.1); rintro e w54 ⟨v199, rfl, ho0, hb⟩; replace HO163 := Aside0.mk (Kd.R_below (rA HO163.out) hb); replace HO168 := Aside0.mk (Kd.R_below (rA HO168.out) hb); replace HO173 := Aside0.mk (Kd.R_below (rA HO173.out) hb); have HO200 := Aside0.mk (Kd.R_lower (Kd.R_new' (Kd.R_new' (Kd.R_new' (Kd.R_new' (Kd.R_new' (Kd.R_new' ho0 (Kd.R_lt (rA HO177.out))) (Kd.R_lt (rA HO181.out))) (Kd.R_lt (rA HO185.out))) (Kd.R_lt (rA HO189.out))) (Kd.R_lt (rA HO193.out))) (Kd.R_lt (rA HO196.out))) (below_size (wB3 HB.out GE164.out GE169.out GE174.out))); replace HO177 := Aside0.mk (Kd.R_elder' (rA HO177.out) (Kd.R_base ho0) hb); replace HO181 := Aside0.mk (Kd.R_elder' (rA HO181.out) (Kd.R_base ho0) hb); replace HO185 := Aside0.mk (Kd.R_elder' (rA HO185.out) (Kd.R_base ho0) hb); replace HO189 := Aside0.mk (Kd.R_elder' (rA HO189.out) (Kd.R_base ho0) hb); replace HO193 := Aside0.mk (Kd.R_elder' (rA HO193.out) (Kd.R_base ho0) hb); replace HO196 := Aside0.mk (Kd.R_elder' (rA HO196.out) (Kd.R_base ho0) hb); replace BK164 := kC BK164 hb; replace BK169 := kC BK169 hb; replace BK174 := kC BK174 hb; replace HB := Aside0.mk (below_step (wB3 HB.out GE164.out GE169.out GE174.out) hb); (try clear hb); (try clear hb2); (try clear hk); (try clear hi); (try clear ho0)))
     go_meet
     case rel => exact ⟨_, ((t201 != 4)), rS, H', ⟨by first | omega | exact Nat.le_refl _⟩, ⟨by (with_reducible repeat (first | apply Kd.R_alloc | apply Kd.R_drewN | apply Kd.R_drew)); exact Kd.R_mono HO163.out (fun _ hk => ⟨hk.1.2, hk.2⟩)⟩, ⟨by (with_reducible repeat (first | apply Kd.R_alloc | apply Kd.R_drewN | apply Kd.R_drew)); exact Kd.R_mono HO168.out (fun _ hk => ⟨hk.1.2, hk.2⟩)⟩, ⟨by (with_reducible repeat (first | apply Kd.R_alloc | apply Kd.R_drewN | apply Kd.R_drew)); exact Kd.R_mono HO173.out (fun _ hk => ⟨hk.1.2, hk.2⟩)⟩, ⟨bA BK164.out⟩, ⟨bA BK169.out⟩, ⟨bA BK174.out⟩, ⟨wB3 HB.out GE164.out GE169.out GE174.out⟩⟩
    ·replace c29 := Bool.eq_false_iff.mpr c29
     subst c29
     have H1 : (wireloomlaw05_examples.j0 k true 4 y161 t165 t166 t170 t171) = some r := by rw [if_neg (show ¬ (false = true) by decide)] at H; exact H
     clear H
     have H := H1
     clear H1
     have H' := Aside0.mk H
     clear H
     have hnb55 := NB164_169.out
     have hnc55 := NB169_164.out
     have hnb56 := NB164_174.out
     have hnc56 := NB174_164.out
     have hcz57_0 : w16.cell? ⟨gb164, 0, none⟩ = some (.int .i64 4) := (blk_cell BK164.out 0).trans rfl
     have hcz57_1 : w16.cell? ⟨gb164, 1, none⟩ = some (.slice Ao6 y161.length co6) := (blk_cell BK164.out 1).trans rfl
     have hfz57_0 := blk_frozen BK164.out 0
     have hfz57_1 := blk_frozen BK164.out 1
     go_wp2_with (first | ((with_reducible refine gate_callee (f := 15) rfl ?_); refine goesL_ (some 14) rfl rfl Try.func15 (by kernel_rfl) rfl #[.agg #[.int .i64 4, .slice Ao6 y161.length co6]] rfl (by (try simp only [List.map_toArray, List.map_cons, List.map_nil]); first | done | rfl | (simp only [List.length_drop, List.length_take]; rfl)) ?_; (with_reducible refine (wireloomlaw05_order.calls 4 _ _ y161 t175 t178 _ ?side1 ?side2 A21.out).mono ?_); (case side1 => refine (Kd.R_reads' (e := 55) (base := w.heap.size) (ok := fun k_ => ((True ∧ some k_ ≠ (.slice Ao13 t166.length co13 : Value).ownBlock) ∧ some k_ ≠ (.slice Ao20 t171.length co20 : Value).ownBlock)) (n := y161.length) (c := co6) ?_).2.2; exact (by (with_reducible repeat (first | apply Kd.R_alloc | apply Kd.R_drewN | apply Kd.R_drew)); exact (Kd.R_mono (Kd.R_far (p := ⟨gb174, 1, none⟩) (Kd.R_far (p := ⟨gb174, 0, none⟩) (Kd.R_types HO163.out BK174.out (by decide)) (fun _ hk => hk.2) (.int .i64 t170)) (fun _ hk => hk.2) (.slice Ao20 t171.length co20)) (fun _ h_ => h_.1)))); (case side2 => exact (Kd.R_reads' HO163.out).2.1); rintro e w58 ⟨v176, rfl, ho0, hb⟩; refine ⟨_, rfl, ?_⟩; replace HO163 := Aside0.mk (Kd.R_below (by (with_reducible repeat (first | apply Kd.R_alloc | apply Kd.R_drewN | apply Kd.R_drew)); exact (Kd.R_mono (Kd.R_far (p := ⟨gb174, 1, none⟩) (Kd.R_far (p := ⟨gb174, 0, none⟩) (Kd.R_types HO163.out BK174.out (by decide)) (fun _ hk => hk.2) (.int .i64 t170)) (fun _ hk => hk.2) (.slice Ao20 t171.length co20)) (fun _ h_ => h_.1))) hb); replace HO168 := Aside0.mk (Kd.R_below (by (with_reducible repeat (first | apply Kd.R_alloc | apply Kd.R_drewN | apply Kd.R_drew)); exact (Kd.R_mono (Kd.R_far (p := ⟨gb174, 1, none⟩) (Kd.R_far (p := ⟨gb174, 0, none⟩) (Kd.R_types HO168.out BK174.out (by decide)) (fun _ hk => hk.2) (.int .i64 t170)) (fun _ hk => hk.2) (.slice Ao20 t171.length co20)) (fun _ h_ => h_.1))) hb); replace HO173 := Aside0.mk (Kd.R_below (by (with_reducible repeat (first | apply Kd.R_alloc | apply Kd.R_drewN | apply Kd.R_drew)); exact (Kd.R_mono (Kd.R_far (p := ⟨gb174, 1, none⟩) (Kd.R_far (p := ⟨gb174, 0, none⟩) (Kd.R_types HO173.out BK174.out (by decide)) (fun _ hk => hk.2) (.int .i64 t170)) (fun _ hk => hk.2) (.slice Ao20 t171.length co20)) (fun _ h_ => h_.1))) hb); have HO177 := Aside0.mk (Kd.R_lower ho0 (below_size (wB3 HB.out GE164.out GE169.out GE174.out))); replace BK164 := Aside0.mk (blk_below (g := gb164) (o := .cells #[.int .i64 4, .slice Ao6 y161.length co6] 31 (0, 0)) (by (with_reducible repeat (first | refine blk_drewN ?_ _ | refine blk_drew ?_ | refine blk_alloc ?_ _)); refine blk_far ?_ NB164_174.out _; (with_reducible repeat (first | refine blk_drewN ?_ _ | refine blk_drew ?_ | refine blk_alloc ?_ _)); refine blk_far ?_ NB164_174.out _; (with_reducible repeat (first | refine blk_drewN ?_ _ | refine blk_drew ?_ | refine blk_alloc ?_ _)); exact BK164.out) hb); replace BK169 := Aside0.mk (blk_below (g := gb169) (o := .cells #[.int .i64 t165, .slice Ao13 t166.length co13] 31 (0, 0)) (by (with_reducible repeat (first | refine blk_drewN ?_ _ | refine blk_drew ?_ | refine blk_alloc ?_ _)); refine blk_far ?_ NB169_174.out _; (with_reducible repeat (first | refine blk_drewN ?_ _ | refine blk_drew ?_ | refine blk_alloc ?_ _)); refine blk_far ?_ NB169_174.out _; (with_reducible repeat (first | refine blk_drewN ?_ _ | refine blk_drew ?_ | refine blk_alloc ?_ _)); exact BK169.out) hb); replace BK174 := Aside0.mk (blk_below (g := gb174) (o := .cells #[.int .i64 t170, .slice Ao20 t171.length co20] 31 (0, 0)) (by (with_reducible repeat (first | refine blk_drewN ?_ _ | refine blk_drew ?_ | refine blk_alloc ?_ _)); refine blk_put (cs := #[.int .i64 t170, .slice none 0 0]) ?_ 1 _ rfl; (with_reducible repeat (first | refine blk_drewN ?_ _ | refine blk_drew ?_ | refine blk_alloc ?_ _)); refine blk_put (cs := #[.int .i64 0, .slice none 0 0]) ?_ 0 _ rfl; (with_reducible repeat (first | refine blk_drewN ?_ _ | refine blk_drew ?_ | refine blk_alloc ?_ _)); exact BK174.out) hb); replace HB := Aside0.mk (below_step (wB3 HB.out GE164.out GE169.out GE174.out) hb); (try clear hb); (try clear hb2); (try clear hk); (try clear hi); (try clear ho0)) | ((with_reducible refine gate_dst (N := 15) rfl ?_); (try (refine gate_guard (by rfl) ?_; dsimp only)); refine Kd.R_lit (Kd.int .i64) _ 3 ?hg (N := 15) ?hd (xs := ([1, 2, 0, 3] : List Int)) (inner := [.int .i64 1, .int .i64 2, .int .i64 0, .int .i64 3]) (ok := fun _ => True) (okp := fun _ => True) ?hr ?hp (fun _ hk => hk) trivial (Below.refl _ _) (Nat.le_refl _) (by simp) ?_; (case hd => rfl); (case hg => rfl); (case hr => first | (go_simp; done) | (go_simp; rfl)); (case hp => exact (Reps.one (show Kd.M (Kd.int .i64) _ _ _ 1 [.int .i64 1] from rfl) (Reps.one (show Kd.M (Kd.int .i64) _ _ _ 2 [.int .i64 2] from rfl) (Reps.one (show Kd.M (Kd.int .i64) _ _ _ 0 [.int .i64 0] from rfl) (Reps.one (show Kd.M (Kd.int .i64) _ _ _ 3 [.int .i64 3] from rfl) (Reps.none _ _)))))); intro v180 w59 ho60 hb hg_ hnew_; clear hg_ hnew_; (first | rw [← Ny179.out] at ho60 | (simp only [Int.reduceToNat] at ho60; rw [← Ny179.out] at ho60)); replace HO163 := Aside0.mk (Kd.R_below (rA HO163.out) hb); replace HO168 := Aside0.mk (Kd.R_below (rA HO168.out) hb); replace HO173 := Aside0.mk (Kd.R_below (rA HO173.out) hb); have HO181 := Aside0.mk (Kd.R_lower (Kd.R_new' ho60 (Kd.R_lt (rA HO177.out))) (below_size (wB3 HB.out GE164.out GE169.out GE174.out))); replace HO177 := Aside0.mk (Kd.R_elder' (rA HO177.out) (Kd.R_base ho60) hb); replace BK164 := Aside0.mk (blk_below (g := gb164) (o := .cells #[.int .i64 4, .slice Ao6 y161.length co6] 31 (0, 0)) (bA BK164.out) hb); replace BK169 := kC BK169 hb; replace BK174 := kC BK174 hb; replace HB := Aside0.mk (below_step (wB3 HB.out GE164.out GE169.out GE174.out) hb); clear hb ho60; obtain ⟨Ao61, co61, eo61⟩ := Kd.R_slice HO181.out; subst eo61; obtain ⟨Ao62, co62, eo62⟩ := Kd.R_slice HO177.out; subst eo62) | ((with_reducible refine gate_callee (f := 14) rfl ?_); refine goesL_ (some 17) rfl rfl Try.func14 (by kernel_rfl) rfl #[.agg #[.slice Ao62 t175.length co62, .int .i64 t178], .agg #[.slice Ao61 y179.length co61, .int .i64 0]] rfl (by (try simp only [List.map_toArray, List.map_cons, List.map_nil]); first | done | rfl | (simp only [List.length_drop, List.length_take]; rfl)) ?_; (with_reducible refine (wireloomref05_Alike.calls k _ _ t175 t178 _ _ y179 0 true _ ?side1 ?side2 ?side3 ?side4 A22.out).mono ?_); (case side1 => exact cA (Kd.R_reads' HO177.out).2.2); (case side2 => exact (Kd.R_reads' HO177.out).2.1); (case side3 => exact cA (Kd.R_reads' HO181.out).2.2); (case side4 => exact (Kd.R_reads' HO181.out).2.1); rintro e w63 ⟨rfl, hb⟩; refine ⟨_, rfl, ?_⟩; replace HO163 := Aside0.mk (Kd.R_below (rA HO163.out) hb); replace HO168 := Aside0.mk (Kd.R_below (rA HO168.out) hb); replace HO173 := Aside0.mk (Kd.R_below (rA HO173.out) hb); replace HO177 := Aside0.mk (Kd.R_below (rA HO177.out) hb); replace HO181 := Aside0.mk (Kd.R_below (rA HO181.out) hb); replace BK164 := kC BK164 hb; replace BK169 := kC BK169 hb; replace BK174 := kC BK174 hb; replace HB := Aside0.mk (below_step (wB3 HB.out GE164.out GE169.out GE174.out) hb); (try clear hb); (try clear hb2); (try clear hk); (try clear hi); have hcz64_0 : w63.cell? ⟨gb164, 0, none⟩ = some (.int .i64 4) := (blk_cell BK164.out 0).trans rfl; have hcz64_1 : w63.cell? ⟨gb164, 1, none⟩ = some (.slice Ao6 y161.length co6) := (blk_cell BK164.out 1).trans rfl; have hfz64_0 := blk_frozen BK164.out 0; have hfz64_1 := blk_frozen BK164.out 1) | (go_at_call 19; (with_reducible refine (wireloomlaw05_depth.calls 4 _ _ y161 t183 t186 _ ?side1 ?side2 A24.out).mono ?_); (case side1 => exact cA (Kd.R_reads' HO163.out).2.2); (case side2 => exact (Kd.R_reads' HO163.out).2.1); rintro e w65 ⟨v184, rfl, ho0, hb⟩; replace HO163 := Aside0.mk (Kd.R_below (rA HO163.out) hb); replace HO168 := Aside0.mk (Kd.R_below (rA HO168.out) hb); replace HO173 := Aside0.mk (Kd.R_below (rA HO173.out) hb); have HO185 := Aside0.mk (Kd.R_lower (Kd.R_new' (Kd.R_new' ho0 (Kd.R_lt (rA HO177.out))) (Kd.R_lt (rA HO181.out))) (below_size (wB3 HB.out GE164.out GE169.out GE174.out))); replace HO177 := Aside0.mk (Kd.R_elder' (rA HO177.out) (Kd.R_base ho0) hb); replace HO181 := Aside0.mk (Kd.R_elder' (rA HO181.out) (Kd.R_base ho0) hb); replace BK164 := kC BK164 hb; replace BK169 := kC BK169 hb; replace BK174 := kC BK174 hb; replace HB := Aside0.mk (below_step (wB3 HB.out GE164.out GE169.out GE174.out) hb); (try clear hb); (try clear hb2); (try clear hk); (try clear hi); (try clear ho0)) | ((with_reducible refine gate_dst (N := 22) rfl ?_); (try (refine gate_guard (by rfl) ?_; dsimp only)); refine Kd.R_lit (Kd.int .i64) _ 3 ?hg (N := 22) ?hd (xs := ([1, 0, 0, 2] : List Int)) (inner := [.int .i64 1, .int .i64 0, .int .i64 0, .int .i64 2]) (ok := fun _ => True) (okp := fun _ => True) ?hr ?hp (fun _ hk => hk) trivial (Below.refl _ _) (Nat.le_refl _) (by simp) ?_; (case hd => rfl); (case hg => rfl); (case hr => first | (go_simp; done) | (go_simp; rfl)); (case hp => exact (Reps.one (show Kd.M (Kd.int .i64) _ _ _ 1 [.int .i64 1] from rfl) (Reps.one (show Kd.M (Kd.int .i64) _ _ _ 0 [.int .i64 0] from rfl) (Reps.one (show Kd.M (Kd.int .i64) _ _ _ 0 [.int .i64 0] from rfl) (Reps.one (show Kd.M (Kd.int .i64) _ _ _ 2 [.int .i64 2] from rfl) (Reps.none _ _)))))); intro v188 w66 ho67 hb hg_ hnew_; clear hg_ hnew_; (first | rw [← Ny187.out] at ho67 | (simp only [Int.reduceToNat] at ho67; rw [← Ny187.out] at ho67)); replace HO163 := Aside0.mk (Kd.R_below (rA HO163.out) hb); replace HO168 := Aside0.mk (Kd.R_below (rA HO168.out) hb); replace HO173 := Aside0.mk (Kd.R_below (rA HO173.out) hb); have HO189 := Aside0.mk (Kd.R_lower (Kd.R_new' (Kd.R_new' (Kd.R_new' ho67 (Kd.R_lt (rA HO177.out))) (Kd.R_lt (rA HO181.out))) (Kd.R_lt (rA HO185.out))) (below_size (wB3 HB.out GE164.out GE169.out GE174.out))); replace HO177 := Aside0.mk (Kd.R_elder' (rA HO177.out) (Kd.R_base ho67) hb); replace HO181 := Aside0.mk (Kd.R_elder' (rA HO181.out) (Kd.R_base ho67) hb); replace HO185 := Aside0.mk (Kd.R_elder' (rA HO185.out) (Kd.R_base ho67) hb); replace BK164 := kC BK164 hb; replace BK169 := kC BK169 hb; replace BK174 := kC BK174 hb; replace HB := Aside0.mk (below_step (wB3 HB.out GE164.out GE169.out GE174.out) hb); clear hb ho67; obtain ⟨Ao68, co68, eo68⟩ := Kd.R_slice HO189.out; subst eo68; obtain ⟨Ao69, co69, eo69⟩ := Kd.R_slice HO185.out; subst eo69) | (go_at_call 14; (with_reducible refine (wireloomref05_Alike.calls k _ _ t183 t186 _ _ y187 0 true _ ?side1 ?side2 ?side3 ?side4 A25.out).mono ?_); (case side1 => exact cA (Kd.R_reads' HO185.out).2.2); (case side2 => exact (Kd.R_reads' HO185.out).2.1); (case side3 => exact cA (Kd.R_reads' HO189.out).2.2); (case side4 => exact (Kd.R_reads' HO189.out).2.1); rintro e w70 ⟨rfl, hb⟩; replace HO163 := Aside0.mk (Kd.R_below (rA HO163.out) hb); replace HO168 := Aside0.mk (Kd.R_below (rA HO168.out) hb); replace HO173 := Aside0.mk (Kd.R_below (rA HO173.out) hb); replace HO177 := Aside0.mk (Kd.R_below (rA HO177.out) hb); replace HO181 := Aside0.mk (Kd.R_below (rA HO181.out) hb); replace HO185 := Aside0.mk (Kd.R_below (rA HO185.out) hb); replace HO189 := Aside0.mk (Kd.R_below (rA HO189.out) hb); replace BK164 := kC BK164 hb; replace BK169 := kC BK169 hb; replace BK174 := kC BK174 hb; replace HB := Aside0.mk (below_step (wB3 HB.out GE164.out GE169.out GE174.out) hb); (try clear hb); (try clear hb2); (try clear hk); (try clear hi); have hcz71_0 : w70.cell? ⟨gb164, 0, none⟩ = some (.int .i64 4) := (blk_cell BK164.out 0).trans rfl; have hcz71_1 : w70.cell? ⟨gb164, 1, none⟩ = some (.slice Ao6 y161.length co6) := (blk_cell BK164.out 1).trans rfl; have hfz71_0 := blk_frozen BK164.out 0; have hfz71_1 := blk_frozen BK164.out 1) | (go_at_call 24; (with_reducible refine (digraph_Reach.calls 4 _ _ y161 2 t191 _ ?side1 ?side2 A27.out).mono ?_); (case side1 => exact cA (Kd.R_reads' HO163.out).2.2); (case side2 => exact (Kd.R_reads' HO163.out).2.1); rintro e w72 ⟨v192, rfl, ho0, hb⟩; replace HO163 := Aside0.mk (Kd.R_below (rA HO163.out) hb); replace HO168 := Aside0.mk (Kd.R_below (rA HO168.out) hb); replace HO173 := Aside0.mk (Kd.R_below (rA HO173.out) hb); have HO193 := Aside0.mk (Kd.R_lower (Kd.R_new' (Kd.R_new' (Kd.R_new' (Kd.R_new' ho0 (Kd.R_lt (rA HO177.out))) (Kd.R_lt (rA HO181.out))) (Kd.R_lt (rA HO185.out))) (Kd.R_lt (rA HO189.out))) (below_size (wB3 HB.out GE164.out GE169.out GE174.out))); replace HO177 := Aside0.mk (Kd.R_elder' (rA HO177.out) (Kd.R_base ho0) hb); replace HO181 := Aside0.mk (Kd.R_elder' (rA HO181.out) (Kd.R_base ho0) hb); replace HO185 := Aside0.mk (Kd.R_elder' (rA HO185.out) (Kd.R_base ho0) hb); replace HO189 := Aside0.mk (Kd.R_elder' (rA HO189.out) (Kd.R_base ho0) hb); replace BK164 := kC BK164 hb; replace BK169 := kC BK169 hb; replace BK174 := kC BK174 hb; replace HB := Aside0.mk (below_step (wB3 HB.out GE164.out GE169.out GE174.out) hb); (try clear hb); (try clear hb2); (try clear hk); (try clear hi); (try clear ho0)) | ((with_reducible refine gate_dst (N := 31) rfl ?_); (try (refine gate_guard (by rfl) ?_; dsimp only)); refine Kd.R_lit (Kd.int .i64) _ 3 ?hg (N := 31) ?hd (xs := ([0, 2, 3] : List Int)) (inner := [.int .i64 0, .int .i64 2, .int .i64 3]) (ok := fun _ => True) (okp := fun _ => True) ?hr ?hp (fun _ hk => hk) trivial (Below.refl _ _) (Nat.le_refl _) (by simp) ?_; (case hd => rfl); (case hg => rfl); (case hr => first | (go_simp; done) | (go_simp; rfl)); (case hp => exact (Reps.one (show Kd.M (Kd.int .i64) _ _ _ 0 [.int .i64 0] from rfl) (Reps.one (show Kd.M (Kd.int .i64) _ _ _ 2 [.int .i64 2] from rfl) (Reps.one (show Kd.M (Kd.int .i64) _ _ _ 3 [.int .i64 3] from rfl) (Reps.none _ _))))); intro v195 w73 ho74 hb hg_ hnew_; clear hg_ hnew_; (first | rw [← Ny194.out] at ho74 | (simp only [Int.reduceToNat] at ho74; rw [← Ny194.out] at ho74)); replace HO163 := Aside0.mk (Kd.R_below (rA HO163.out) hb); replace HO168 := Aside0.mk (Kd.R_below (rA HO168.out) hb); replace HO173 := Aside0.mk (Kd.R_below (rA HO173.out) hb); have HO196 := Aside0.mk (Kd.R_lower (Kd.R_new' (Kd.R_new' (Kd.R_new' (Kd.R_new' (Kd.R_new' ho74 (Kd.R_lt (rA HO177.out))) (Kd.R_lt (rA HO181.out))) (Kd.R_lt (rA HO185.out))) (Kd.R_lt (rA HO189.out))) (Kd.R_lt (rA HO193.out))) (below_size (wB3 HB.out GE164.out GE169.out GE174.out))); replace HO177 := Aside0.mk (Kd.R_elder' (rA HO177.out) (Kd.R_base ho74) hb); replace HO181 := Aside0.mk (Kd.R_elder' (rA HO181.out) (Kd.R_base ho74) hb); replace HO185 := Aside0.mk (Kd.R_elder' (rA HO185.out) (Kd.R_base ho74) hb); replace HO189 := Aside0.mk (Kd.R_elder' (rA HO189.out) (Kd.R_base ho74) hb); replace HO193 := Aside0.mk (Kd.R_elder' (rA HO193.out) (Kd.R_base ho74) hb); replace BK164 := kC BK164 hb; replace BK169 := kC BK169 hb; replace BK174 := kC BK174 hb; replace HB := Aside0.mk (below_step (wB3 HB.out GE164.out GE169.out GE174.out) hb); clear hb ho74; obtain ⟨Ao75, co75, eo75⟩ := Kd.R_slice HO193.out; subst eo75; obtain ⟨Ao76, co76, eo76⟩ := Kd.R_slice HO196.out; subst eo76) | (go_at_call 23; (with_reducible refine (wireloomref05_Same.calls k _ _ t191 _ _ y194 false _ ?side1 ?side2 ?side3 ?side4 A28.out).mono ?_); (case side1 => exact cA (Kd.R_reads' HO193.out).2.2); (case side2 => exact (Kd.R_reads' HO193.out).2.1); (case side3 => exact cA (Kd.R_reads' HO196.out).2.2); (case side4 => exact (Kd.R_reads' HO196.out).2.1); rintro e w' ⟨rfl, ⟨nd, rfl⟩⟩))
     go_meet
     case rel => exact ⟨_, (true), rS, H', ⟨by first | omega | exact Nat.le_refl _⟩, ⟨by (with_reducible repeat (first | apply Kd.R_alloc | apply Kd.R_drewN | apply Kd.R_drew)); exact Kd.R_mono HO163.out (fun _ hk => ⟨hk.1.2, hk.2⟩)⟩, ⟨by (with_reducible repeat (first | apply Kd.R_alloc | apply Kd.R_drewN | apply Kd.R_drew)); exact Kd.R_mono HO168.out (fun _ hk => ⟨hk.1.2, hk.2⟩)⟩, ⟨by (with_reducible repeat (first | apply Kd.R_alloc | apply Kd.R_drewN | apply Kd.R_drew)); exact Kd.R_mono HO173.out (fun _ hk => ⟨hk.1.2, hk.2⟩)⟩, ⟨bA BK164.out⟩, ⟨bA BK169.out⟩, ⟨bA BK174.out⟩, ⟨wB3 HB.out GE164.out GE169.out GE174.out⟩⟩
   ·replace c26 := Bool.eq_false_iff.mpr c26
    subst c26
    have H1 : (none) = some r := by rw [if_neg (show ¬ (false = true) by decide)] at H; exact H
    clear H
    have H := H1
    clear H1
    exact absurd H (by simp)
  ·replace c23 := Bool.eq_false_iff.mpr c23
   subst c23
   have H1 : (none) = some r := by rw [if_neg (show ¬ (false = true) by decide)] at H; exact H
   clear H
   have H := H1
   clear H1
   exact absurd H (by simp)
 case rest =>
  clear HC3
  try clear c1; try clear c2; try clear p2; try clear c3; try clear c5; try clear c10; try clear c11; try clear c14; try clear c15; try clear c17; try clear c18; try clear c23; try clear c26; try clear c29; try clear c31; try clear c32; try clear c55; try clear c56; try clear hcz12_0; try clear hcz12_1; try clear hcz14_0; try clear hcz14_1; try clear hcz19_0; try clear hcz19_1; try clear hcz33_0; try clear hcz33_1; try clear hcz40_0; try clear hcz40_1; try clear hcz47_0; try clear hcz47_1; try clear hcz53_0; try clear hcz53_1; try clear hcz57_0; try clear hcz57_1; try clear hcz64_0; try clear hcz64_1; try clear hcz71_0; try clear hcz71_1; try clear hcz8_0; try clear hcz8_1
  try clear hfz12_0; try clear hfz12_1; try clear hfz14_0; try clear hfz14_1; try clear hfz19_0; try clear hfz19_1; try clear hfz33_0; try clear hfz33_1; try clear hfz40_0; try clear hfz40_1; try clear hfz47_0; try clear hfz47_1; try clear hfz53_0; try clear hfz53_1; try clear hfz57_0; try clear hfz57_1; try clear hfz64_0; try clear hfz64_1; try clear hfz71_0; try clear hfz71_1; try clear hfz8_0; try clear hfz8_1
  obtain ⟨kq, x40_2, rfl, HA, HJ2, HO_165001, HO_170001, HO_175001, BK164, BK169, BK174, HB⟩ := hcut
  cases kq with
  | zero => exact absurd HA.out (by simp [wireloomlaw05_examples.j0])
  | succ kj2 =>
   have H := HA.out
   clear HA
   simp only [wireloomlaw05_examples.j0] at H
   by_cases c77 : x40_2 = true
   ·subst c77
    have H1 : (none) = some r := by rw [if_pos rfl] at H; exact H
    clear H
    have H := H1
    clear H1
    exact absurd H (by simp)
   ·replace c77 := Bool.eq_false_iff.mpr c77
    subst c77
    have H1 : ((wireloomlaw05_order.f t165 t166).bind fun bt202 => (if bt202.2 = 50 then ((wireloomlaw05_depth.f t165 t166).bind fun bt206 => (if bt206.2 = 50 then ((wireloomlaw05_cycle.f t165 t166).bind fun bt210 => ((wireloomref05_Alike.f kj2 bt210.1 bt210.2 (([0, 3, 2] : List Int)) 0).bind fun t217 => (if t217 = true then ((wireloomlaw05_cycle.f t170 t171).bind fun bt218 => ((wireloomref05_Alike.f kj2 bt218.1 bt218.2 (([1] : List Int)) 0).bind fun t225 => (if t225 = true then ((digraph_Components.f 4 t166).bind fun t226 => ((wireloomref05_SameLists.f kj2 t226 (([(([0, 2, 3] : List Int)), (([1] : List Int))] : List (List Int)))).bind fun t238 => (wireloomlaw05_examples.j1 kj2 (!t238) 4 y161))) else (wireloomlaw05_examples.j1 kj2 true 4 y161)))) else (none)))) else (none))) else (none))) = some r := by rw [if_neg (show ¬ (false = true) by decide)] at H; exact H
    clear H
    have H := H1
    clear H1
    have HC78 := Aside0.mk H
    clear H
    go_upto_region 6 with (fail)
    go_cut [76] (fun v76 wc => ∃ (kq : Nat) (x76_77 : Bool), v76 = .bool x76_77 ∧ Aside0 (wireloomlaw05_examples.j1 kq x76_77 4 y161 = some r) ∧ Aside0 (kq ≤ kj2) ∧ Aside0 (Kd.R k55 55 wc w.heap.size (fun k_ => some k_ ≠ ((.slice Ao13 t166.length co13) : Value).ownBlock ∧ some k_ ≠ ((.slice Ao20 t171.length co20) : Value).ownBlock) (.slice Ao6 y161.length co6) y161) ∧ Aside0 (Kd.R k55 55 wc w.heap.size (fun k_ => some k_ ≠ ((.slice Ao6 y161.length co6) : Value).ownBlock ∧ some k_ ≠ ((.slice Ao20 t171.length co20) : Value).ownBlock) (.slice Ao13 t166.length co13) t166) ∧ Aside0 (Kd.R k55 55 wc w.heap.size (fun k_ => some k_ ≠ ((.slice Ao6 y161.length co6) : Value).ownBlock ∧ some k_ ≠ ((.slice Ao13 t166.length co13) : Value).ownBlock) (.slice Ao20 t171.length co20) t171) ∧ Aside0 (wc.heap[gb164]? = some (.cells #[.int .i64 4, (.slice Ao6 y161.length co6)] 31 (0, 0))) ∧ Aside0 (wc.heap[gb169]? = some (.cells #[.int .i64 t165, (.slice Ao13 t166.length co13)] 31 (0, 0))) ∧ Aside0 (wc.heap[gb174]? = some (.cells #[.int .i64 t170, (.slice Ao20 t171.length co20)] 31 (0, 0))) ∧ Aside0 (Below w.heap.size w wc))
    case first =>
     have H := HC78.out
     clear HC78
     replace H := Option.bind_eq_some_iff.mp H
     obtain ⟨⟨t202, t205⟩, A790, H⟩ := H
     replace H : (if t205 = 50 then ((wireloomlaw05_depth.f t165 t166).bind fun bt206 => (if bt206.2 = 50 then ((wireloomlaw05_cycle.f t165 t166).bind fun bt210 => ((wireloomref05_Alike.f kj2 bt210.1 bt210.2 (([0, 3, 2] : List Int)) 0).bind fun t217 => (if t217 = true then ((wireloomlaw05_cycle.f t170 t171).bind fun bt218 => ((wireloomref05_Alike.f kj2 bt218.1 bt218.2 (([1] : List Int)) 0).bind fun t225 => (if t225 = true then ((digraph_Components.f 4 t166).bind fun t226 => ((wireloomref05_SameLists.f kj2 t226 (([(([0, 2, 3] : List Int)), (([1] : List Int))] : List (List Int)))).bind fun t238 => (wireloomlaw05_examples.j1 kj2 (!t238) 4 y161))) else (wireloomlaw05_examples.j1 kj2 true 4 y161)))) else (none)))) else (none))) else (none)) = some r := H
     have A79 := Aside0.mk A790
     clear A790
     by_cases c80 : t205 = 50
     rotate_left
     ·rw [if_neg c80] at H
      exact absurd H (by simp)
     rw [if_pos c80] at H
     have c80b0 : (t205 == 50) = true := beq_iff_eq.mpr c80
     have c80b1 : (t205 != 50) = false := bne_eq_false_iff_eq.mpr c80
     clear c80
     (first | rw [c80b0] | (simp only [i64_w, i32_w]; rw [c80b0]) | skip)
     replace H := Option.bind_eq_some_iff.mp H
     obtain ⟨⟨t206, t209⟩, A810, H⟩ := H
     replace H : (if t209 = 50 then ((wireloomlaw05_cycle.f t165 t166).bind fun bt210 => ((wireloomref05_Alike.f kj2 bt210.1 bt210.2 (([0, 3, 2] : List Int)) 0).bind fun t217 => (if t217 = true then ((wireloomlaw05_cycle.f t170 t171).bind fun bt218 => ((wireloomref05_Alike.f kj2 bt218.1 bt218.2 (([1] : List Int)) 0).bind fun t225 => (if t225 = true then ((digraph_Components.f 4 t166).bind fun t226 => ((wireloomref05_SameLists.f kj2 t226 (([(([0, 2, 3] : List Int)), (([1] : List Int))] : List (List Int)))).bind fun t238 => (wireloomlaw05_examples.j1 kj2 (!t238) 4 y161))) else (wireloomlaw05_examples.j1 kj2 true 4 y161)))) else (none)))) else (none)) = some r := H
     have A81 := Aside0.mk A810
     clear A810
     by_cases c82 : t209 = 50
     rotate_left
     ·rw [if_neg c82] at H
      exact absurd H (by simp)
     rw [if_pos c82] at H
     have c82b0 : (t209 == 50) = true := beq_iff_eq.mpr c82
     have c82b1 : (t209 != 50) = false := bne_eq_false_iff_eq.mpr c82
     clear c82
     replace H := Option.bind_eq_some_iff.mp H
     obtain ⟨⟨t210, t213⟩, A830, H⟩ := H
     replace H : ((wireloomref05_Alike.f kj2 t210 t213 (([0, 3, 2] : List Int)) 0).bind fun t217 => (if t217 = true then ((wireloomlaw05_cycle.f t170 t171).bind fun bt218 => ((wireloomref05_Alike.f kj2 bt218.1 bt218.2 (([1] : List Int)) 0).bind fun t225 => (if t225 = true then ((digraph_Components.f 4 t166).bind fun t226 => ((wireloomref05_SameLists.f kj2 t226 (([(([0, 2, 3] : List Int)), (([1] : List Int))] : List (List Int)))).bind fun t238 => (wireloomlaw05_examples.j1 kj2 (!t238) 4 y161))) else (wireloomlaw05_examples.j1 kj2 true 4 y161)))) else (none))) = some r := H
     have A83 := Aside0.mk A830
     clear A830
     obtain ⟨y214, hy214⟩ : ∃ y_ : List Int, y_ = (([0, 3, 2] : List Int)) := ⟨_, rfl⟩
     replace H : ((wireloomref05_Alike.f kj2 t210 t213 y214 0).bind fun t217 => (if t217 = true then ((wireloomlaw05_cycle.f t170 t171).bind fun bt218 => ((wireloomref05_Alike.f kj2 bt218.1 bt218.2 (([1] : List Int)) 0).bind fun t225 => (if t225 = true then ((digraph_Components.f 4 t166).bind fun t226 => ((wireloomref05_SameLists.f kj2 t226 (([(([0, 2, 3] : List Int)), (([1] : List Int))] : List (List Int)))).bind fun t238 => (wireloomlaw05_examples.j1 kj2 (!t238) 4 y161))) else (wireloomlaw05_examples.j1 kj2 true 4 y161)))) else (none))) = some r := by first | (rw [hy214]; with_reducible exact H) | (have H2_ := (Option.bind_some _ _).symm.trans H; rw [hy214]; with_reducible exact H2_) | (have H2_ := (Option.bind_some _ _).symm.trans H; with_reducible exact H2_) | with_reducible exact H | (rw [hy214]; exact H) | exact H
     have Ny214 := Aside0.mk hy214
     clear hy214
     replace H := Option.bind_eq_some_iff.mp H
     obtain ⟨t217, A840, H⟩ := H
     replace H : (if t217 = true then ((wireloomlaw05_cycle.f t170 t171).bind fun bt218 => ((wireloomref05_Alike.f kj2 bt218.1 bt218.2 (([1] : List Int)) 0).bind fun t225 => (if t225 = true then ((digraph_Components.f 4 t166).bind fun t226 => ((wireloomref05_SameLists.f kj2 t226 (([(([0, 2, 3] : List Int)), (([1] : List Int))] : List (List Int)))).bind fun t238 => (wireloomlaw05_examples.j1 kj2 (!t238) 4 y161))) else (wireloomlaw05_examples.j1 kj2 true 4 y161)))) else (none)) = some r := H
     have A84 := Aside0.mk A840
     clear A840
     by_cases c85 : t217 = true
     ·subst c85
      have H1 : ((wireloomlaw05_cycle.f t170 t171).bind fun bt218 => ((wireloomref05_Alike.f kj2 bt218.1 bt218.2 (([1] : List Int)) 0).bind fun t225 => (if t225 = true then ((digraph_Components.f 4 t166).bind fun t226 => ((wireloomref05_SameLists.f kj2 t226 (([(([0, 2, 3] : List Int)), (([1] : List Int))] : List (List Int)))).bind fun t238 => (wireloomlaw05_examples.j1 kj2 (!t238) 4 y161))) else (wireloomlaw05_examples.j1 kj2 true 4 y161)))) = some r := by rw [if_pos rfl] at H; exact H
      clear H
      have H := H1
      clear H1
      replace H := Option.bind_eq_some_iff.mp H
      obtain ⟨⟨t218, t221⟩, A860, H⟩ := H
      replace H : ((wireloomref05_Alike.f kj2 t218 t221 (([1] : List Int)) 0).bind fun t225 => (if t225 = true then ((digraph_Components.f 4 t166).bind fun t226 => ((wireloomref05_SameLists.f kj2 t226 (([(([0, 2, 3] : List Int)), (([1] : List Int))] : List (List Int)))).bind fun t238 => (wireloomlaw05_examples.j1 kj2 (!t238) 4 y161))) else (wireloomlaw05_examples.j1 kj2 true 4 y161))) = some r := H
      have A86 := Aside0.mk A860
      clear A860
      obtain ⟨y222, hy222⟩ : ∃ y_ : List Int, y_ = (([1] : List Int)) := ⟨_, rfl⟩
      replace H : ((wireloomref05_Alike.f kj2 t218 t221 y222 0).bind fun t225 => (if t225 = true then ((digraph_Components.f 4 t166).bind fun t226 => ((wireloomref05_SameLists.f kj2 t226 (([(([0, 2, 3] : List Int)), (([1] : List Int))] : List (List Int)))).bind fun t238 => (wireloomlaw05_examples.j1 kj2 (!t238) 4 y161))) else (wireloomlaw05_examples.j1 kj2 true 4 y161))) = some r := by first | (rw [hy222]; with_reducible exact H) | (have H2_ := (Option.bind_some _ _).symm.trans H; rw [hy222]; with_reducible exact H2_) | (have H2_ := (Option.bind_some _ _).symm.trans H; with_reducible exact H2_) | with_reducible exact H | (rw [hy222]; exact H) | exact H
      have Ny222 := Aside0.mk hy222
      clear hy222
      replace H := Option.bind_eq_some_iff.mp H
      obtain ⟨t225, A870, H⟩ := H
      replace H : (if t225 = true then ((digraph_Components.f 4 t166).bind fun t226 => ((wireloomref05_SameLists.f kj2 t226 (([(([0, 2, 3] : List Int)), (([1] : List Int))] : List (List Int)))).bind fun t238 => (wireloomlaw05_examples.j1 kj2 (!t238) 4 y161))) else (wireloomlaw05_examples.j1 kj2 true 4 y161)) = some r := H
      have A87 := Aside0.mk A870
      clear A870
      by_cases c88 : t225 = true
      ·subst c88
       have H1 : ((digraph_Components.f 4 t166).bind fun t226 => ((wireloomref05_SameLists.f kj2 t226 (([(([0, 2, 3] : List Int)), (([1] : List Int))] : List (List Int)))).bind fun t238 => (wireloomlaw05_examples.j1 kj2 (!t238) 4 y161))) = some r := by rw [if_pos rfl] at H; exact H
       clear H
       have H := H1
       clear H1
       replace H := Option.bind_eq_some_iff.mp H
       obtain ⟨t226, A890, H⟩ := H
       replace H : ((wireloomref05_SameLists.f kj2 t226 (([(([0, 2, 3] : List Int)), (([1] : List Int))] : List (List Int)))).bind fun t238 => (wireloomlaw05_examples.j1 kj2 (!t238) 4 y161)) = some r := H
       have A89 := Aside0.mk A890
       clear A890
       obtain ⟨y229, hy229⟩ : ∃ y_ : List Int, y_ = (([0, 2, 3] : List Int)) := ⟨_, rfl⟩
       replace H : ((wireloomref05_SameLists.f kj2 t226 (([y229, (([1] : List Int))] : List (List Int)))).bind fun t238 => (wireloomlaw05_examples.j1 kj2 (!t238) 4 y161)) = some r := by first | (rw [hy229]; with_reducible exact H) | (have H2_ := (Option.bind_some _ _).symm.trans H; rw [hy229]; with_reducible exact H2_) | (have H2_ := (Option.bind_some _ _).symm.trans H; with_reducible exact H2_) | with_reducible exact H | (rw [hy229]; exact H) | exact H
       have Ny229 := Aside0.mk hy229
       clear hy229
       obtain ⟨y232, hy232⟩ : ∃ y_ : List Int, y_ = (([1] : List Int)) := ⟨_, rfl⟩
       replace H : ((wireloomref05_SameLists.f kj2 t226 (([y229, y232] : List (List Int)))).bind fun t238 => (wireloomlaw05_examples.j1 kj2 (!t238) 4 y161)) = some r := by first | (rw [hy232]; with_reducible exact H) | (have H2_ := (Option.bind_some _ _).symm.trans H; rw [hy232]; with_reducible exact H2_) | (have H2_ := (Option.bind_some _ _).symm.trans H; with_reducible exact H2_) | with_reducible exact H | (rw [hy232]; exact H) | exact H
       have Ny232 := Aside0.mk hy232
       clear hy232
       obtain ⟨y235, hy235⟩ : ∃ y_ : List (List Int), y_ = (([y229, y232] : List (List Int))) := ⟨_, rfl⟩
       replace H : ((wireloomref05_SameLists.f kj2 t226 y235).bind fun t238 => (wireloomlaw05_examples.j1 kj2 (!t238) 4 y161)) = some r := by first | (rw [hy235]; with_reducible exact H) | (have H2_ := (Option.bind_some _ _).symm.trans H; rw [hy235]; with_reducible exact H2_) | (have H2_ := (Option.bind_some _ _).symm.trans H; with_reducible exact H2_) | with_reducible exact H | (rw [hy235]; exact H) | exact H
       have Ny235 := Aside0.mk hy235
       clear hy235
       replace H := Option.bind_eq_some_iff.mp H
       obtain ⟨t238, A900, H⟩ := H
       replace H : (wireloomlaw05_examples.j1 kj2 (!t238) 4 y161) = some r := H
       have A90 := Aside0.mk A900
       clear A900
       have H' := Aside0.mk H
       clear H
       have hnb91 := NB169_164.out
       have hnc91 := NB164_169.out
       have hnb92 := NB169_174.out
       have hnc92 := NB174_169.out
       have hcz93_0 : wc.cell? ⟨gb169, 0, none⟩ = some (.int .i64 t165) := (blk_cell BK169.out 0).trans rfl
       have hcz93_1 : wc.cell? ⟨gb169, 1, none⟩ = some (.slice Ao13 t166.length co13) := (blk_cell BK169.out 1).trans rfl
       have hfz93_0 := blk_frozen BK169.out 0
       have hfz93_1 := blk_frozen BK169.out 1
       go_wp2_with (first | ((with_reducible refine gate_callee (f := 15) rfl ?_); refine goesL_ (some 42) rfl rfl Try.func15 (by kernel_rfl) rfl #[.agg #[.int .i64 t165, .slice Ao13 t166.length co13]] rfl (by (try simp only [List.map_toArray, List.map_cons, List.map_nil]); first | done | rfl | (simp only [List.length_drop, List.length_take]; rfl)) ?_; (with_reducible refine (wireloomlaw05_order.calls t165 _ _ t166 t202 t205 _ ?side1 ?side2 A79.out).mono ?_); (case side1 => exact cA (Kd.R_reads' HO_170001.out).2.2); (case side2 => exact (Kd.R_reads' HO_170001.out).2.1); rintro e w94 ⟨v203, rfl, ho0, hb⟩; refine ⟨_, rfl, ?_⟩; replace HO_165001 := Aside0.mk (Kd.R_below (rA HO_165001.out) hb); replace HO_170001 := Aside0.mk (Kd.R_below (rA HO_170001.out) hb); replace HO_175001 := Aside0.mk (Kd.R_below (rA HO_175001.out) hb); have HO204 := Aside0.mk (Kd.R_lower ho0 (below_size (wB3 HB.out GE164.out GE169.out GE174.out))); replace BK164 := kC BK164 hb; replace BK169 := kC BK169 hb; replace BK174 := kC BK174 hb; replace HB := Aside0.mk (below_step (wB3 HB.out GE164.out GE169.out GE174.out) hb); (try clear hb); (try clear hb2); (try clear hk); (try clear hi); (try clear ho0); have hcz95_0 : w94.cell? ⟨gb169, 0, none⟩ = some (.int .i64 t165) := (blk_cell BK169.out 0).trans rfl; have hcz95_1 : w94.cell? ⟨gb169, 1, none⟩ = some (.slice Ao13 t166.length co13) := (blk_cell BK169.out 1).trans rfl; have hfz95_0 := blk_frozen BK169.out 0; have hfz95_1 := blk_frozen BK169.out 1) | (go_at_call 19; (with_reducible refine (wireloomlaw05_depth.calls t165 _ _ t166 t206 t209 _ ?side1 ?side2 A81.out).mono ?_); (case side1 => exact cA (Kd.R_reads' HO_170001.out).2.2); (case side2 => exact (Kd.R_reads' HO_170001.out).2.1); rintro e w96 ⟨v207, rfl, ho0, hb⟩; replace HO_165001 := Aside0.mk (Kd.R_below (rA HO_165001.out) hb); replace HO_170001 := Aside0.mk (Kd.R_below (rA HO_170001.out) hb); replace HO_175001 := Aside0.mk (Kd.R_below (rA HO_175001.out) hb); have HO208 := Aside0.mk (Kd.R_lower (Kd.R_new' ho0 (Kd.R_lt (rA HO204.out))) (below_size (wB3 HB.out GE164.out GE169.out GE174.out))); replace HO204 := Aside0.mk (Kd.R_elder' (rA HO204.out) (Kd.R_base ho0) hb); replace BK164 := kC BK164 hb; replace BK169 := kC BK169 hb; replace BK174 := kC BK174 hb; replace HB := Aside0.mk (below_step (wB3 HB.out GE164.out GE169.out GE174.out) hb); (try clear hb); (try clear hb2); (try clear hk); (try clear hi); (try clear ho0); have hcz97_0 : w96.cell? ⟨gb169, 0, none⟩ = some (.int .i64 t165) := (blk_cell BK169.out 0).trans rfl; have hcz97_1 : w96.cell? ⟨gb169, 1, none⟩ = some (.slice Ao13 t166.length co13) := (blk_cell BK169.out 1).trans rfl; have hfz97_0 := blk_frozen BK169.out 0; have hfz97_1 := blk_frozen BK169.out 1) | (go_at_call 17; (with_reducible refine (wireloomlaw05_cycle.calls t165 _ _ t166 t210 t213 _ ?side1 ?side2 A83.out).mono ?_); (case side1 => exact cA (Kd.R_reads' HO_170001.out).2.2); (case side2 => exact (Kd.R_reads' HO_170001.out).2.1); rintro e w98 ⟨v211, rfl, ho0, hb⟩; replace HO_165001 := Aside0.mk (Kd.R_below (rA HO_165001.out) hb); replace HO_170001 := Aside0.mk (Kd.R_below (rA HO_170001.out) hb); replace HO_175001 := Aside0.mk (Kd.R_below (rA HO_175001.out) hb); have HO212 := Aside0.mk (Kd.R_lower (Kd.R_new' (Kd.R_new' ho0 (Kd.R_lt (rA HO204.out))) (Kd.R_lt (rA HO208.out))) (below_size (wB3 HB.out GE164.out GE169.out GE174.out))); replace HO204 := Aside0.mk (Kd.R_elder' (rA HO204.out) (Kd.R_base ho0) hb); replace HO208 := Aside0.mk (Kd.R_elder' (rA HO208.out) (Kd.R_base ho0) hb); replace BK164 := kC BK164 hb; replace BK169 := kC BK169 hb; replace BK174 := kC BK174 hb; replace HB := Aside0.mk (below_step (wB3 HB.out GE164.out GE169.out GE174.out) hb); (try clear hb); (try clear hb2); (try clear hk); (try clear hi); (try clear ho0)) | ((with_reducible refine gate_dst (N := 54) rfl ?_); (try (refine gate_guard (by rfl) ?_; dsimp only)); refine Kd.R_lit (Kd.int .i64) _ 3 ?hg (N := 54) ?hd (xs := ([0, 3, 2] : List Int)) (inner := [.int .i64 0, .int .i64 3, .int .i64 2]) (ok := fun _ => True) (okp := fun _ => True) ?hr ?hp (fun _ hk => hk) trivial (Below.refl _ _) (Nat.le_refl _) (by simp) ?_; (case hd => rfl); (case hg => rfl); (case hr => first | (go_simp; done) | (go_simp; rfl)); (case hp => exact (Reps.one (show Kd.M (Kd.int .i64) _ _ _ 0 [.int .i64 0] from rfl) (Reps.one (show Kd.M (Kd.int .i64) _ _ _ 3 [.int .i64 3] from rfl) (Reps.one (show Kd.M (Kd.int .i64) _ _ _ 2 [.int .i64 2] from rfl) (Reps.none _ _))))); intro v215 w99 ho100 hb hg_ hnew_; clear hg_ hnew_; (first | rw [← Ny214.out] at ho100 | (simp only [Int.reduceToNat] at ho100; rw [← Ny214.out] at ho100)); replace HO_165001 := Aside0.mk (Kd.R_below (rA HO_165001.out) hb); replace HO_170001 := Aside0.mk (Kd.R_below (rA HO_170001.out) hb); replace HO_175001 := Aside0.mk (Kd.R_below (rA HO_175001.out) hb); have HO216 := Aside0.mk (Kd.R_lower (Kd.R_new' (Kd.R_new' (Kd.R_new' ho100 (Kd.R_lt (rA HO204.out))) (Kd.R_lt (rA HO208.out))) (Kd.R_lt (rA HO212.out))) (below_size (wB3 HB.out GE164.out GE169.out GE174.out))); replace HO204 := Aside0.mk (Kd.R_elder' (rA HO204.out) (Kd.R_base ho100) hb); replace HO208 := Aside0.mk (Kd.R_elder' (rA HO208.out) (Kd.R_base ho100) hb); replace HO212 := Aside0.mk (Kd.R_elder' (rA HO212.out) (Kd.R_base ho100) hb); replace BK164 := kC BK164 hb; replace BK169 := kC BK169 hb; replace BK174 := kC BK174 hb; replace HB := Aside0.mk (below_step (wB3 HB.out GE164.out GE169.out GE174.out) hb); clear hb ho100; obtain ⟨Ao101, co101, eo101⟩ := Kd.R_slice HO216.out; subst eo101; obtain ⟨Ao102, co102, eo102⟩ := Kd.R_slice HO212.out; subst eo102) | (go_at_call 14; (with_reducible refine (wireloomref05_Alike.calls kj2 _ _ t210 t213 _ _ y214 0 true _ ?side1 ?side2 ?side3 ?side4 A84.out).mono ?_); (case side1 => exact cA (Kd.R_reads' HO212.out).2.2); (case side2 => exact (Kd.R_reads' HO212.out).2.1); (case side3 => exact cA (Kd.R_reads' HO216.out).2.2); (case side4 => exact (Kd.R_reads' HO216.out).2.1); rintro e w103 ⟨rfl, hb⟩; replace HO_165001 := Aside0.mk (Kd.R_below (rA HO_165001.out) hb); replace HO_170001 := Aside0.mk (Kd.R_below (rA HO_170001.out) hb); replace HO_175001 := Aside0.mk (Kd.R_below (rA HO_175001.out) hb); replace HO204 := Aside0.mk (Kd.R_below (rA HO204.out) hb); replace HO208 := Aside0.mk (Kd.R_below (rA HO208.out) hb); replace HO212 := Aside0.mk (Kd.R_below (rA HO212.out) hb); replace HO216 := Aside0.mk (Kd.R_below (rA HO216.out) hb); replace BK164 := kC BK164 hb; replace BK169 := kC BK169 hb; replace BK174 := kC BK174 hb; replace HB := Aside0.mk (below_step (wB3 HB.out GE164.out GE169.out GE174.out) hb); (try clear hb); (try clear hb2); (try clear hk); (try clear hi); have hnb104 := NB174_164.out; have hnc104 := NB164_174.out; have hcz105_0 : w103.cell? ⟨gb174, 0, none⟩ = some (.int .i64 t170) := (blk_cell BK174.out 0).trans rfl; have hcz105_1 : w103.cell? ⟨gb174, 1, none⟩ = some (.slice Ao20 t171.length co20) := (blk_cell BK174.out 1).trans rfl; have hfz105_0 := blk_frozen BK174.out 0; have hfz105_1 := blk_frozen BK174.out 1) | (go_at_call 17; (with_reducible refine (wireloomlaw05_cycle.calls t170 _ _ t171 t218 t221 _ ?side1 ?side2 A86.out).mono ?_); (case side1 => exact cA (Kd.R_reads' HO_175001.out).2.2); (case side2 => exact (Kd.R_reads' HO_175001.out).2.1); rintro e w106 ⟨v219, rfl, ho0, hb⟩; replace HO_165001 := Aside0.mk (Kd.R_below (rA HO_165001.out) hb); replace HO_170001 := Aside0.mk (Kd.R_below (rA HO_170001.out) hb); replace HO_175001 := Aside0.mk (Kd.R_below (rA HO_175001.out) hb); have HO220 := Aside0.mk (Kd.R_lower (Kd.R_new' (Kd.R_new' (Kd.R_new' (Kd.R_new' ho0 (Kd.R_lt (rA HO204.out))) (Kd.R_lt (rA HO208.out))) (Kd.R_lt (rA HO212.out))) (Kd.R_lt (rA HO216.out))) (below_size (wB3 HB.out GE164.out GE169.out GE174.out))); replace HO204 := Aside0.mk (Kd.R_elder' (rA HO204.out) (Kd.R_base ho0) hb); replace HO208 := Aside0.mk (Kd.R_elder' (rA HO208.out) (Kd.R_base ho0) hb); replace HO212 := Aside0.mk (Kd.R_elder' (rA HO212.out) (Kd.R_base ho0) hb); replace HO216 := Aside0.mk (Kd.R_elder' (rA HO216.out) (Kd.R_base ho0) hb); replace BK164 := kC BK164 hb; replace BK169 := kC BK169 hb; replace BK174 := kC BK174 hb; replace HB := Aside0.mk (below_step (wB3 HB.out GE164.out GE169.out GE174.out) hb); (try clear hb); (try clear hb2); (try clear hk); (try clear hi); (try clear ho0)) | ((with_reducible refine gate_dst (N := 62) rfl ?_); (try (refine gate_guard (by rfl) ?_; dsimp only)); refine Kd.R_lit (Kd.int .i64) _ 3 ?hg (N := 62) ?hd (xs := ([1] : List Int)) (inner := [.int .i64 1]) (ok := fun _ => True) (okp := fun _ => True) ?hr ?hp (fun _ hk => hk) trivial (Below.refl _ _) (Nat.le_refl _) (by simp) ?_; (case hd => rfl); (case hg => rfl); (case hr => first | (go_simp; done) | (go_simp; rfl)); (case hp => exact (Reps.one (show Kd.M (Kd.int .i64) _ _ _ 1 [.int .i64 1] from rfl) (Reps.none _ _))); intro v223 w107 ho108 hb hg_ hnew_; clear hg_ hnew_; (first | rw [← Ny222.out] at ho108 | (simp only [Int.reduceToNat] at ho108; rw [← Ny222.out] at ho108)); replace HO_165001 := Aside0.mk (Kd.R_below (rA HO_165001.out) hb); replace HO_170001 := Aside0.mk (Kd.R_below (rA HO_170001.out) hb); replace HO_175001 := Aside0.mk (Kd.R_below (rA HO_175001.out) hb); have HO224 := Aside0.mk (Kd.R_lower (Kd.R_new' (Kd.R_new' (Kd.R_new' (Kd.R_new' (Kd.R_new' ho108 (Kd.R_lt (rA HO204.out))) (Kd.R_lt (rA HO208.out))) (Kd.R_lt (rA HO212.out))) (Kd.R_lt (rA HO216.out))) (Kd.R_lt (rA HO220.out))) (below_size (wB3 HB.out GE164.out GE169.out GE174.out))); replace HO204 := Aside0.mk (Kd.R_elder' (rA HO204.out) (Kd.R_base ho108) hb); replace HO208 := Aside0.mk (Kd.R_elder' (rA HO208.out) (Kd.R_base ho108) hb); replace HO212 := Aside0.mk (Kd.R_elder' (rA HO212.out) (Kd.R_base ho108) hb); replace HO216 := Aside0.mk (Kd.R_elder' (rA HO216.out) (Kd.R_base ho108) hb); replace HO220 := Aside0.mk (Kd.R_elder' (rA HO220.out) (Kd.R_base ho108) hb); replace BK164 := kC BK164 hb; replace BK169 := kC BK169 hb; replace BK174 := kC BK174 hb; replace HB := Aside0.mk (below_step (wB3 HB.out GE164.out GE169.out GE174.out) hb); clear hb ho108; obtain ⟨Ao109, co109, eo109⟩ := Kd.R_slice HO224.out; subst eo109; obtain ⟨Ao110, co110, eo110⟩ := Kd.R_slice HO220.out; subst eo110) | (go_at_call 14; (with_reducible refine (wireloomref05_Alike.calls kj2 _ _ t218 t221 _ _ y222 0 true _ ?side1 ?side2 ?side3 ?side4 A87.out).mono ?_); (case side1 => exact cA (Kd.R_reads' HO220.out).2.2); (case side2 => exact (Kd.R_reads' HO220.out).2.1); (case side3 => exact cA (Kd.R_reads' HO224.out).2.2); (case side4 => exact (Kd.R_reads' HO224.out).2.1); rintro e w111 ⟨rfl, hb⟩; replace HO_165001 := Aside0.mk (Kd.R_below (rA HO_165001.out) hb); replace HO_170001 := Aside0.mk (Kd.R_below (rA HO_170001.out) hb); replace HO_175001 := Aside0.mk (Kd.R_below (rA HO_175001.out) hb); replace HO204 := Aside0.mk (Kd.R_below (rA HO204.out) hb); replace HO208 := Aside0.mk (Kd.R_below (rA HO208.out) hb); replace HO212 := Aside0.mk (Kd.R_below (rA HO212.out) hb); replace HO216 := Aside0.mk (Kd.R_below (rA HO216.out) hb); replace HO220 := Aside0.mk (Kd.R_below (rA HO220.out) hb); replace HO224 := Aside0.mk (Kd.R_below (rA HO224.out) hb); replace BK164 := kC BK164 hb; replace BK169 := kC BK169 hb; replace BK174 := kC BK174 hb; replace HB := Aside0.mk (below_step (wB3 HB.out GE164.out GE169.out GE174.out) hb); (try clear hb); (try clear hb2); (try clear hk); (try clear hi); have hcz112_0 : w111.cell? ⟨gb169, 0, none⟩ = some (.int .i64 t165) := (blk_cell BK169.out 0).trans rfl; have hcz112_1 : w111.cell? ⟨gb169, 1, none⟩ = some (.slice Ao13 t166.length co13) := (blk_cell BK169.out 1).trans rfl; have hfz112_0 := blk_frozen BK169.out 0; have hfz112_1 := blk_frozen BK169.out 1) | (go_at_call 27; (with_reducible refine (digraph_Components.calls 4 _ _ t166 t226 _ ?side1 ?side2 A89.out).mono ?_); (case side1 => exact cA (Kd.R_reads' HO_170001.out).2.2); (case side2 => exact (Kd.R_reads' HO_170001.out).2.1); rintro e w113 ⟨v227, rfl, ho0, hb⟩; have HO228 := Aside0.mk (Kd.N_lower (Kd.N_mono (ok' := fun k_ => some k_ ≠ (.slice Ao6 y161.length co6 : Value).ownBlock ∧ some k_ ≠ (.slice Ao13 t166.length co13 : Value).ownBlock ∧ some k_ ≠ (.slice Ao20 t171.length co20 : Value).ownBlock ∧ some k_ ≠ (v203 : Value).ownBlock ∧ some k_ ≠ (v207 : Value).ownBlock ∧ some k_ ≠ (.slice Ao102 t210.length co102 : Value).ownBlock ∧ some k_ ≠ (.slice Ao101 y214.length co101 : Value).ownBlock ∧ some k_ ≠ (.slice Ao110 t218.length co110 : Value).ownBlock ∧ some k_ ≠ (.slice Ao109 y222.length co109 : Value).ownBlock ∧ k_ ≠ gb164 ∧ k_ ≠ gb169 ∧ k_ ≠ gb174) (Kd.S_N (Kd.S_bound ho0)) (fun k_ hk_ => ⟨(Kd.fresh' (Kd.R_lt (rA HO_165001.out)) k_ hk_.2.1), (Kd.fresh' (Kd.R_lt (rA HO_170001.out)) k_ hk_.2.1), (Kd.fresh' (Kd.R_lt (rA HO_175001.out)) k_ hk_.2.1), (Kd.fresh' (Kd.R_lt (rA HO204.out)) k_ hk_.2.1), (Kd.fresh' (Kd.R_lt (rA HO208.out)) k_ hk_.2.1), (Kd.fresh' (Kd.R_lt (rA HO212.out)) k_ hk_.2.1), (Kd.fresh' (Kd.R_lt (rA HO216.out)) k_ hk_.2.1), (Kd.fresh' (Kd.R_lt (rA HO220.out)) k_ hk_.2.1), (Kd.fresh' (Kd.R_lt (rA HO224.out)) k_ hk_.2.1), (Kd.freshB (g := gb164) (o := .cells #[.int .i64 4, .slice Ao6 y161.length co6] 31 (0, 0)) (bA BK164.out) k_ hk_.2.1), (Kd.freshB (g := gb169) (o := .cells #[.int .i64 t165, .slice Ao13 t166.length co13] 31 (0, 0)) (bA BK169.out) k_ hk_.2.1), (Kd.freshB (g := gb174) (o := .cells #[.int .i64 t170, .slice Ao20 t171.length co20] 31 (0, 0)) (bA BK174.out) k_ hk_.2.1)⟩)) (below_size (wB3 HB.out GE164.out GE169.out GE174.out))); replace HO_165001 := Aside0.mk (Kd.R_below (rA HO_165001.out) hb); replace HO_170001 := Aside0.mk (Kd.R_below (rA HO_170001.out) hb); replace HO_175001 := Aside0.mk (Kd.R_below (rA HO_175001.out) hb); replace HO204 := Aside0.mk (Kd.R_below (rA HO204.out) hb); replace HO208 := Aside0.mk (Kd.R_below (rA HO208.out) hb); replace HO212 := Aside0.mk (Kd.R_below (rA HO212.out) hb); replace HO216 := Aside0.mk (Kd.R_below (rA HO216.out) hb); replace HO220 := Aside0.mk (Kd.R_below (rA HO220.out) hb); replace HO224 := Aside0.mk (Kd.R_below (rA HO224.out) hb); replace BK164 := kC BK164 hb; replace BK169 := kC BK169 hb; replace BK174 := kC BK174 hb; replace HB := Aside0.mk (below_step (wB3 HB.out GE164.out GE169.out GE174.out) hb); (try clear hb); (try clear hb2); (try clear hk); (try clear hi); (try clear ho0)) | ((with_reducible refine gate_dst (N := 71) rfl ?_); (try (refine gate_guard (by rfl) ?_; dsimp only)); refine Kd.R_lit (Kd.int .i64) _ 3 ?hg (N := 71) ?hd (xs := ([0, 2, 3] : List Int)) (inner := [.int .i64 0, .int .i64 2, .int .i64 3]) (ok := fun _ => True) (okp := fun _ => True) ?hr ?hp (fun _ hk => hk) trivial (Below.refl _ _) (Nat.le_refl _) (by simp) ?_; (case hd => rfl); (case hg => rfl); (case hr => first | (go_simp; done) | (go_simp; rfl)); (case hp => exact (Reps.one (show Kd.M (Kd.int .i64) _ _ _ 0 [.int .i64 0] from rfl) (Reps.one (show Kd.M (Kd.int .i64) _ _ _ 2 [.int .i64 2] from rfl) (Reps.one (show Kd.M (Kd.int .i64) _ _ _ 3 [.int .i64 3] from rfl) (Reps.none _ _))))); intro v230 w114 ho115 hb hg_ hnew_; clear hg_ hnew_; (first | rw [← Ny229.out] at ho115 | (simp only [Int.reduceToNat] at ho115; rw [← Ny229.out] at ho115)); replace HO_165001 := Aside0.mk (Kd.R_below (rA HO_165001.out) hb); replace HO_170001 := Aside0.mk (Kd.R_below (rA HO_170001.out) hb); replace HO_175001 := Aside0.mk (Kd.R_below (rA HO_175001.out) hb); replace HO228 := Aside0.mk (Kd.N_elder' (by (with_reducible repeat (first | apply Kd.N_alloc | apply Kd.N_drewN | apply Kd.N_drew)); exact HO228.out) (Kd.R_base ho115) hb); have HO231 := Aside0.mk (Kd.R_lower (Kd.R_new' (Kd.R_new' (Kd.R_new' (Kd.R_new' (Kd.R_new' (Kd.R_new' ho115 (Kd.R_lt (rA HO204.out))) (Kd.R_lt (rA HO208.out))) (Kd.R_lt (rA HO212.out))) (Kd.R_lt (rA HO216.out))) (Kd.R_lt (rA HO220.out))) (Kd.R_lt (rA HO224.out))) (below_size (wB3 HB.out GE164.out GE169.out GE174.out))); replace HO204 := Aside0.mk (Kd.R_elder' (rA HO204.out) (Kd.R_base ho115) hb); replace HO208 := Aside0.mk (Kd.R_elder' (rA HO208.out) (Kd.R_base ho115) hb); replace HO212 := Aside0.mk (Kd.R_elder' (rA HO212.out) (Kd.R_base ho115) hb); replace HO216 := Aside0.mk (Kd.R_elder' (rA HO216.out) (Kd.R_base ho115) hb); replace HO220 := Aside0.mk (Kd.R_elder' (rA HO220.out) (Kd.R_base ho115) hb); replace HO224 := Aside0.mk (Kd.R_elder' (rA HO224.out) (Kd.R_base ho115) hb); replace BK164 := kC BK164 hb; replace BK169 := kC BK169 hb; replace BK174 := kC BK174 hb; replace HB := Aside0.mk (below_step (wB3 HB.out GE164.out GE169.out GE174.out) hb); clear hb ho115) | ((with_reducible refine gate_dst (N := 72) rfl ?_); (try (refine gate_guard (by rfl) ?_; dsimp only)); refine Kd.R_lit (Kd.int .i64) _ 3 ?hg (N := 72) ?hd (xs := ([1] : List Int)) (inner := [.int .i64 1]) (ok := fun _ => True) (okp := fun _ => True) ?hr ?hp (fun _ hk => hk) trivial (Below.refl _ _) (Nat.le_refl _) (by simp) ?_; (case hd => rfl); (case hg => rfl); (case hr => first | (go_simp; done) | (go_simp; rfl)); (case hp => exact (Reps.one (show Kd.M (Kd.int .i64) _ _ _ 1 [.int .i64 1] from rfl) (Reps.none _ _))); intro v233 w116 ho117 hb hg_ hnew_; clear hg_ hnew_; (first | rw [← Ny232.out] at ho117 | (simp only [Int.reduceToNat] at ho117; rw [← Ny232.out] at ho117)); replace HO_165001 := Aside0.mk (Kd.R_below (rA HO_165001.out) hb); replace HO_170001 := Aside0.mk (Kd.R_below (rA HO_170001.out) hb); replace HO_175001 := Aside0.mk (Kd.R_below (rA HO_175001.out) hb); replace HO228 := Aside0.mk (Kd.N_elder' (by (with_reducible repeat (first | apply Kd.N_alloc | apply Kd.N_drewN | apply Kd.N_drew)); exact HO228.out) (Kd.R_base ho117) hb); have HO234 := Aside0.mk (Kd.R_lower (Kd.R_new' (Kd.R_new' (Kd.R_new' (Kd.R_new' (Kd.R_new' (Kd.R_new' (Kd.R_new' ho117 (Kd.R_lt (rA HO204.out))) (Kd.R_lt (rA HO208.out))) (Kd.R_lt (rA HO212.out))) (Kd.R_lt (rA HO216.out))) (Kd.R_lt (rA HO220.out))) (Kd.R_lt (rA HO224.out))) (Kd.R_lt (rA HO231.out))) (below_size (wB3 HB.out GE164.out GE169.out GE174.out))); replace HO204 := Aside0.mk (Kd.R_elder' (rA HO204.out) (Kd.R_base ho117) hb); replace HO208 := Aside0.mk (Kd.R_elder' (rA HO208.out) (Kd.R_base ho117) hb); replace HO212 := Aside0.mk (Kd.R_elder' (rA HO212.out) (Kd.R_base ho117) hb); replace HO216 := Aside0.mk (Kd.R_elder' (rA HO216.out) (Kd.R_base ho117) hb); replace HO220 := Aside0.mk (Kd.R_elder' (rA HO220.out) (Kd.R_base ho117) hb); replace HO224 := Aside0.mk (Kd.R_elder' (rA HO224.out) (Kd.R_base ho117) hb); replace HO231 := Aside0.mk (Kd.R_elder' (rA HO231.out) (Kd.R_base ho117) hb); replace BK164 := kC BK164 hb; replace BK169 := kC BK169 hb; replace BK174 := kC BK174 hb; replace HB := Aside0.mk (below_step (wB3 HB.out GE164.out GE169.out GE174.out) hb); clear hb ho117; obtain ⟨Ao118, co118, eo118⟩ := Kd.R_slice HO231.out; subst eo118; obtain ⟨Ao119, co119, eo119⟩ := Kd.R_slice HO234.out; subst eo119) | ((with_reducible refine gate_dst (N := 73) rfl ?_); (try (refine gate_guard (by rfl) ?_; dsimp only)); refine Kd.N_lit (Kd.slice 3 (Kd.int .i64)) _ 26 ?hg (N' := 73) ?hd (xs := ([y229, y232] : List (List Int))) (inner := [.slice Ao118 y229.length co118, .slice Ao119 y232.length co119]) (ok := (fun k_ => some k_ ≠ (.slice Ao6 y161.length co6 : Value).ownBlock ∧ some k_ ≠ (.slice Ao13 t166.length co13 : Value).ownBlock ∧ some k_ ≠ (.slice Ao20 t171.length co20 : Value).ownBlock ∧ some k_ ≠ (v203 : Value).ownBlock ∧ some k_ ≠ (v207 : Value).ownBlock ∧ some k_ ≠ (.slice Ao102 t210.length co102 : Value).ownBlock ∧ some k_ ≠ (.slice Ao101 y214.length co101 : Value).ownBlock ∧ some k_ ≠ (.slice Ao110 t218.length co110 : Value).ownBlock ∧ some k_ ≠ (.slice Ao109 y222.length co109 : Value).ownBlock ∧ some k_ ≠ (v227 : Value).ownBlock ∧ k_ ≠ gb164 ∧ k_ ≠ gb169 ∧ k_ ≠ gb174)) (okp := (fun k_ => some k_ ≠ (.slice Ao6 y161.length co6 : Value).ownBlock ∧ some k_ ≠ (.slice Ao13 t166.length co13 : Value).ownBlock ∧ some k_ ≠ (.slice Ao20 t171.length co20 : Value).ownBlock ∧ some k_ ≠ (v203 : Value).ownBlock ∧ some k_ ≠ (v207 : Value).ownBlock ∧ some k_ ≠ (.slice Ao102 t210.length co102 : Value).ownBlock ∧ some k_ ≠ (.slice Ao101 y214.length co101 : Value).ownBlock ∧ some k_ ≠ (.slice Ao110 t218.length co110 : Value).ownBlock ∧ some k_ ≠ (.slice Ao109 y222.length co109 : Value).ownBlock ∧ some k_ ≠ (v227 : Value).ownBlock ∧ k_ ≠ gb164 ∧ k_ ≠ gb169 ∧ k_ ≠ gb174)) ?hr ?hp (fun _ hk => hk) ((show ∀ k_, w116.heap.size ≤ k_ → (fun k_ => some k_ ≠ (.slice Ao6 y161.length co6 : Value).ownBlock ∧ some k_ ≠ (.slice Ao13 t166.length co13 : Value).ownBlock ∧ some k_ ≠ (.slice Ao20 t171.length co20 : Value).ownBlock ∧ some k_ ≠ (v203 : Value).ownBlock ∧ some k_ ≠ (v207 : Value).ownBlock ∧ some k_ ≠ (.slice Ao102 t210.length co102 : Value).ownBlock ∧ some k_ ≠ (.slice Ao101 y214.length co101 : Value).ownBlock ∧ some k_ ≠ (.slice Ao110 t218.length co110 : Value).ownBlock ∧ some k_ ≠ (.slice Ao109 y222.length co109 : Value).ownBlock ∧ some k_ ≠ (v227 : Value).ownBlock ∧ k_ ≠ gb164 ∧ k_ ≠ gb169 ∧ k_ ≠ gb174) k_ from fun k_ hk => ⟨Kd.fresh' (Kd.R_lt (rA HO_165001.out)) k_ hk, Kd.fresh' (Kd.R_lt (rA HO_170001.out)) k_ hk, Kd.fresh' (Kd.R_lt (rA HO_175001.out)) k_ hk, Kd.fresh' (Kd.R_lt (rA HO204.out)) k_ hk, Kd.fresh' (Kd.R_lt (rA HO208.out)) k_ hk, Kd.fresh' (Kd.R_lt (rA HO212.out)) k_ hk, Kd.fresh' (Kd.R_lt (rA HO216.out)) k_ hk, Kd.fresh' (Kd.R_lt (rA HO220.out)) k_ hk, Kd.fresh' (Kd.R_lt (rA HO224.out)) k_ hk, Kd.fresh' (Kd.N_lt (by (with_reducible repeat (first | apply Kd.N_alloc | apply Kd.N_drewN | apply Kd.N_drew)); exact HO228.out)) k_ hk, Kd.freshB (g := gb164) (o := .cells #[.int .i64 4, .slice Ao6 y161.length co6] 31 (0, 0)) (bA BK164.out) k_ hk, Kd.freshB (g := gb169) (o := .cells #[.int .i64 t165, .slice Ao13 t166.length co13] 31 (0, 0)) (bA BK169.out) k_ hk, Kd.freshB (g := gb174) (o := .cells #[.int .i64 t170, .slice Ao20 t171.length co20] 31 (0, 0)) (bA BK174.out) k_ hk⟩) _ (Nat.le_refl _)) (Below.refl _ _) (Nat.le_refl _) (by simp) ?_; (case hd => rfl); (case hg => rfl); (case hr => first | (go_simp; done) | (go_simp; rfl)); (case hp => exact (Reps.one (show Kd.FK (Kd.slice 3 (Kd.int .i64)) _ _ y229 [.slice Ao118 y229.length co118] from (Kd.FK_slice_mk (Kd.R_reads' (Kd.R_mono (ok' := (fun k_ => some k_ ≠ (.slice Ao6 y161.length co6 : Value).ownBlock ∧ some k_ ≠ (.slice Ao13 t166.length co13 : Value).ownBlock ∧ some k_ ≠ (.slice Ao20 t171.length co20 : Value).ownBlock ∧ some k_ ≠ (v203 : Value).ownBlock ∧ some k_ ≠ (v207 : Value).ownBlock ∧ some k_ ≠ (.slice Ao102 t210.length co102 : Value).ownBlock ∧ some k_ ≠ (.slice Ao101 y214.length co101 : Value).ownBlock ∧ some k_ ≠ (.slice Ao110 t218.length co110 : Value).ownBlock ∧ some k_ ≠ (.slice Ao109 y222.length co109 : Value).ownBlock ∧ some k_ ≠ (v227 : Value).ownBlock ∧ k_ ≠ gb164 ∧ k_ ≠ gb169 ∧ k_ ≠ gb174)) (Kd.R_types (Kd.R_types (Kd.R_types (Kd.R_apart' (Kd.R_apart' (Kd.R_apart' (Kd.R_apart' (HO231.out) (Kd.R_typed HO_165001.out) (by decide)) (Kd.R_typed HO_170001.out) (by decide)) (Kd.R_typed HO_175001.out) (by decide)) (Kd.N_typed HO228.out) (by decide)) BK164.out (by decide)) BK169.out (by decide)) BK174.out (by decide)) (fun k_ hk => ⟨hk.1.1.1.1.1.1.2, ⟨hk.1.1.1.1.1.2, ⟨hk.1.1.1.1.2, ⟨hk.1.1.1.1.1.1.1.1.1.1.1.1.1.2, ⟨hk.1.1.1.1.1.1.1.1.1.1.1.1.2, ⟨hk.1.1.1.1.1.1.1.1.1.1.1.2, ⟨hk.1.1.1.1.1.1.1.1.1.1.2, ⟨hk.1.1.1.1.1.1.1.1.1.2, ⟨hk.1.1.1.1.1.1.1.1.2, ⟨hk.1.1.1.2, ⟨hk.1.1.2, ⟨hk.1.2, hk.2⟩⟩⟩⟩⟩⟩⟩⟩⟩⟩⟩⟩))).2.1 (Kd.R_F (Kd.R_mono (ok' := (fun k_ => some k_ ≠ (.slice Ao6 y161.length co6 : Value).ownBlock ∧ some k_ ≠ (.slice Ao13 t166.length co13 : Value).ownBlock ∧ some k_ ≠ (.slice Ao20 t171.length co20 : Value).ownBlock ∧ some k_ ≠ (v203 : Value).ownBlock ∧ some k_ ≠ (v207 : Value).ownBlock ∧ some k_ ≠ (.slice Ao102 t210.length co102 : Value).ownBlock ∧ some k_ ≠ (.slice Ao101 y214.length co101 : Value).ownBlock ∧ some k_ ≠ (.slice Ao110 t218.length co110 : Value).ownBlock ∧ some k_ ≠ (.slice Ao109 y222.length co109 : Value).ownBlock ∧ some k_ ≠ (v227 : Value).ownBlock ∧ k_ ≠ gb164 ∧ k_ ≠ gb169 ∧ k_ ≠ gb174)) (Kd.R_types (Kd.R_types (Kd.R_types (Kd.R_apart' (Kd.R_apart' (Kd.R_apart' (Kd.R_apart' (HO231.out) (Kd.R_typed HO_165001.out) (by decide)) (Kd.R_typed HO_170001.out) (by decide)) (Kd.R_typed HO_175001.out) (by decide)) (Kd.N_typed HO228.out) (by decide)) BK164.out (by decide)) BK169.out (by decide)) BK174.out (by decide)) (fun k_ hk => ⟨hk.1.1.1.1.1.1.2, ⟨hk.1.1.1.1.1.2, ⟨hk.1.1.1.1.2, ⟨hk.1.1.1.1.1.1.1.1.1.1.1.1.1.2, ⟨hk.1.1.1.1.1.1.1.1.1.1.1.1.2, ⟨hk.1.1.1.1.1.1.1.1.1.1.1.2, ⟨hk.1.1.1.1.1.1.1.1.1.1.2, ⟨hk.1.1.1.1.1.1.1.1.1.2, ⟨hk.1.1.1.1.1.1.1.1.2, ⟨hk.1.1.1.2, ⟨hk.1.1.2, ⟨hk.1.2, hk.2⟩⟩⟩⟩⟩⟩⟩⟩⟩⟩⟩⟩))))) (Reps.one (show Kd.FK (Kd.slice 3 (Kd.int .i64)) _ _ y232 [.slice Ao119 y232.length co119] from (Kd.FK_slice_mk (Kd.R_reads' (Kd.R_mono (ok' := (fun k_ => some k_ ≠ (.slice Ao6 y161.length co6 : Value).ownBlock ∧ some k_ ≠ (.slice Ao13 t166.length co13 : Value).ownBlock ∧ some k_ ≠ (.slice Ao20 t171.length co20 : Value).ownBlock ∧ some k_ ≠ (v203 : Value).ownBlock ∧ some k_ ≠ (v207 : Value).ownBlock ∧ some k_ ≠ (.slice Ao102 t210.length co102 : Value).ownBlock ∧ some k_ ≠ (.slice Ao101 y214.length co101 : Value).ownBlock ∧ some k_ ≠ (.slice Ao110 t218.length co110 : Value).ownBlock ∧ some k_ ≠ (.slice Ao109 y222.length co109 : Value).ownBlock ∧ some k_ ≠ (v227 : Value).ownBlock ∧ k_ ≠ gb164 ∧ k_ ≠ gb169 ∧ k_ ≠ gb174)) (Kd.R_types (Kd.R_types (Kd.R_types (Kd.R_apart' (Kd.R_apart' (Kd.R_apart' (Kd.R_apart' (HO234.out) (Kd.R_typed HO_165001.out) (by decide)) (Kd.R_typed HO_170001.out) (by decide)) (Kd.R_typed HO_175001.out) (by decide)) (Kd.N_typed HO228.out) (by decide)) BK164.out (by decide)) BK169.out (by decide)) BK174.out (by decide)) (fun k_ hk => ⟨hk.1.1.1.1.1.1.2, ⟨hk.1.1.1.1.1.2, ⟨hk.1.1.1.1.2, ⟨hk.1.1.1.1.1.1.1.1.1.1.1.1.1.2, ⟨hk.1.1.1.1.1.1.1.1.1.1.1.1.2, ⟨hk.1.1.1.1.1.1.1.1.1.1.1.2, ⟨hk.1.1.1.1.1.1.1.1.1.1.2, ⟨hk.1.1.1.1.1.1.1.1.1.2, ⟨hk.1.1.1.1.1.1.1.1.2, ⟨hk.1.1.1.2, ⟨hk.1.1.2, ⟨hk.1.2, hk.2⟩⟩⟩⟩⟩⟩⟩⟩⟩⟩⟩⟩))).2.1 (Kd.R_F (Kd.R_mono (ok' := (fun k_ => some k_ ≠ (.slice Ao6 y161.length co6 : Value).ownBlock ∧ some k_ ≠ (.slice Ao13 t166.length co13 : Value).ownBlock ∧ some k_ ≠ (.slice Ao20 t171.length co20 : Value).ownBlock ∧ some k_ ≠ (v203 : Value).ownBlock ∧ some k_ ≠ (v207 : Value).ownBlock ∧ some k_ ≠ (.slice Ao102 t210.length co102 : Value).ownBlock ∧ some k_ ≠ (.slice Ao101 y214.length co101 : Value).ownBlock ∧ some k_ ≠ (.slice Ao110 t218.length co110 : Value).ownBlock ∧ some k_ ≠ (.slice Ao109 y222.length co109 : Value).ownBlock ∧ some k_ ≠ (v227 : Value).ownBlock ∧ k_ ≠ gb164 ∧ k_ ≠ gb169 ∧ k_ ≠ gb174)) (Kd.R_types (Kd.R_types (Kd.R_types (Kd.R_apart' (Kd.R_apart' (Kd.R_apart' (Kd.R_apart' (HO234.out) (Kd.R_typed HO_165001.out) (by decide)) (Kd.R_typed HO_170001.out) (by decide)) (Kd.R_typed HO_175001.out) (by decide)) (Kd.N_typed HO228.out) (by decide)) BK164.out (by decide)) BK169.out (by decide)) BK174.out (by decide)) (fun k_ hk => ⟨hk.1.1.1.1.1.1.2, ⟨hk.1.1.1.1.1.2, ⟨hk.1.1.1.1.2, ⟨hk.1.1.1.1.1.1.1.1.1.1.1.1.1.2, ⟨hk.1.1.1.1.1.1.1.1.1.1.1.1.2, ⟨hk.1.1.1.1.1.1.1.1.1.1.1.2, ⟨hk.1.1.1.1.1.1.1.1.1.1.2, ⟨hk.1.1.1.1.1.1.1.1.1.2, ⟨hk.1.1.1.1.1.1.1.1.2, ⟨hk.1.1.1.2, ⟨hk.1.1.2, ⟨hk.1.2, hk.2⟩⟩⟩⟩⟩⟩⟩⟩⟩⟩⟩⟩))))) (Reps.none _ _)))); intro v236 w120 ho121 hb hg_ hnew_; clear hg_ hnew_; (first | rw [← Ny235.out] at ho121 | (simp only [Int.reduceToNat] at ho121; rw [← Ny235.out] at ho121)); replace HO_165001 := Aside0.mk (Kd.R_below (rA HO_165001.out) hb); replace HO_170001 := Aside0.mk (Kd.R_below (rA HO_170001.out) hb); replace HO_175001 := Aside0.mk (Kd.R_below (rA HO_175001.out) hb); replace HO204 := Aside0.mk (Kd.R_below (rA HO204.out) hb); replace HO208 := Aside0.mk (Kd.R_below (rA HO208.out) hb); replace HO212 := Aside0.mk (Kd.R_below (rA HO212.out) hb); replace HO216 := Aside0.mk (Kd.R_below (rA HO216.out) hb); replace HO220 := Aside0.mk (Kd.R_below (rA HO220.out) hb); replace HO224 := Aside0.mk (Kd.R_below (rA HO224.out) hb); replace HO228 := Aside0.mk (Kd.N_elder' (by (with_reducible repeat (first | apply Kd.N_alloc | apply Kd.N_drewN | apply Kd.N_drew)); exact HO228.out) (Kd.N_base ho121) hb); have HO237 := Aside0.mk (Kd.N_lower ho121 (below_size (wB3 HB.out GE164.out GE169.out GE174.out))); replace BK164 := kC BK164 hb; replace BK169 := kC BK169 hb; replace BK174 := kC BK174 hb; replace HB := Aside0.mk (below_step (wB3 HB.out GE164.out GE169.out GE174.out) hb); clear HO231 HO234; clear hb ho121; obtain ⟨Ao122, co122, eo122⟩ := Kd.N_slice HO228.out; subst eo122; obtain ⟨Ao123, co123, eo123⟩ := Kd.N_slice HO237.out; subst eo123) | (go_at_call 26; (with_reducible refine (wireloomref05_SameLists.calls kj2 _ _ t226 _ _ y235 t238 _ ?side1 ?side2 ?side3 ?side4 A90.out).mono ?_); (case side1 => exact cA (Kd.N_reads' HO228.out).2.2); (case side2 => exact (Kd.N_reads' HO228.out).2.1); (case side3 => exact cA (Kd.N_reads' HO237.out).2.2); (case side4 => exact (Kd.N_reads' HO237.out).2.1); rintro e w' ⟨rfl, ⟨nd, rfl⟩⟩))
       go_meet
       case rel => exact ⟨_, (!t238), rS, H', ⟨by have := HJ2.out; first | omega | exact Nat.le_refl _⟩, ⟨rA HO_165001.out⟩, ⟨rA HO_170001.out⟩, ⟨rA HO_175001.out⟩, ⟨bA BK164.out⟩, ⟨bA BK169.out⟩, ⟨bA BK174.out⟩, ⟨wB3 HB.out GE164.out GE169.out GE174.out⟩⟩
      ·replace c88 := Bool.eq_false_iff.mpr c88
       subst c88
       have H1 : (wireloomlaw05_examples.j1 kj2 true 4 y161) = some r := by rw [if_neg (show ¬ (false = true) by decide)] at H; exact H
       clear H
       have H := H1
       clear H1
       have H' := Aside0.mk H
       clear H
       have hnb124 := NB169_164.out
       have hnc124 := NB164_169.out
       have hnb125 := NB169_174.out
       have hnc125 := NB174_169.out
       have hcz126_0 : wc.cell? ⟨gb169, 0, none⟩ = some (.int .i64 t165) := (blk_cell BK169.out 0).trans rfl
       have hcz126_1 : wc.cell? ⟨gb169, 1, none⟩ = some (.slice Ao13 t166.length co13) := (blk_cell BK169.out 1).trans rfl
       have hfz126_0 := blk_frozen BK169.out 0
       have hfz126_1 := blk_frozen BK169.out 1
       go_wp2_with (first | ((with_reducible refine gate_callee (f := 15) rfl ?_); refine goesL_ (some 42) rfl rfl Try.func15 (by kernel_rfl) rfl #[.agg #[.int .i64 t165, .slice Ao13 t166.length co13]] rfl (by (try simp only [List.map_toArray, List.map_cons, List.map_nil]); first | done | rfl | (simp only [List.length_drop, List.length_take]; rfl)) ?_; (with_reducible refine (wireloomlaw05_order.calls t165 _ _ t166 t202 t205 _ ?side1 ?side2 A79.out).mono ?_); (case side1 => exact cA (Kd.R_reads' HO_170001.out).2.2); (case side2 => exact (Kd.R_reads' HO_170001.out).2.1); rintro e w127 ⟨v203, rfl, ho0, hb⟩; refine ⟨_, rfl, ?_⟩; replace HO_165001 := Aside0.mk (Kd.R_below (rA HO_165001.out) hb); replace HO_170001 := Aside0.mk (Kd.R_below (rA HO_170001.out) hb); replace HO_175001 := Aside0.mk (Kd.R_below (rA HO_175001.out) hb); have HO204 := Aside0.mk (Kd.R_lower ho0 (below_size (wB3 HB.out GE164.out GE169.out GE174.out))); replace BK164 := kC BK164 hb; replace BK169 := kC BK169 hb; replace BK174 := kC BK174 hb; replace HB := Aside0.mk (below_step (wB3 HB.out GE164.out GE169.out GE174.out) hb); (try clear hb); (try clear hb2); (try clear hk); (try clear hi); (try clear ho0); have hcz128_0 : w127.cell? ⟨gb169, 0, none⟩ = some (.int .i64 t165) := (blk_cell BK169.out 0).trans rfl; have hcz128_1 : w127.cell? ⟨gb169, 1, none⟩ = some (.slice Ao13 t166.length co13) := (blk_cell BK169.out 1).trans rfl; have hfz128_0 := blk_frozen BK169.out 0; have hfz128_1 := blk_frozen BK169.out 1) | (go_at_call 19; (with_reducible refine (wireloomlaw05_depth.calls t165 _ _ t166 t206 t209 _ ?side1 ?side2 A81.out).mono ?_); (case side1 => exact cA (Kd.R_reads' HO_170001.out).2.2); (case side2 => exact (Kd.R_reads' HO_170001.out).2.1); rintro e w129 ⟨v207, rfl, ho0, hb⟩; replace HO_165001 := Aside0.mk (Kd.R_below (rA HO_165001.out) hb); replace HO_170001 := Aside0.mk (Kd.R_below (rA HO_170001.out) hb); replace HO_175001 := Aside0.mk (Kd.R_below (rA HO_175001.out) hb); have HO208 := Aside0.mk (Kd.R_lower (Kd.R_new' ho0 (Kd.R_lt (rA HO204.out))) (below_size (wB3 HB.out GE164.out GE169.out GE174.out))); replace HO204 := Aside0.mk (Kd.R_elder' (rA HO204.out) (Kd.R_base ho0) hb); replace BK164 := kC BK164 hb; replace BK169 := kC BK169 hb; replace BK174 := kC BK174 hb; replace HB := Aside0.mk (below_step (wB3 HB.out GE164.out GE169.out GE174.out) hb); (try clear hb); (try clear hb2); (try clear hk); (try clear hi); (try clear ho0); have hcz130_0 : w129.cell? ⟨gb169, 0, none⟩ = some (.int .i64 t165) := (blk_cell BK169.out 0).trans rfl; have hcz130_1 : w129.cell? ⟨gb169, 1, none⟩ = some (.slice Ao13 t166.length co13) := (blk_cell BK169.out 1).trans rfl; have hfz130_0 := blk_frozen BK169.out 0; have hfz130_1 := blk_frozen BK169.out 1) | (go_at_call 17; (with_reducible refine (wireloomlaw05_cycle.calls t165 _ _ t166 t210 t213 _ ?side1 ?side2 A83.out).mono ?_); (case side1 => exact cA (Kd.R_reads' HO_170001.out).2.2); (case side2 => exact (Kd.R_reads' HO_170001.out).2.1); rintro e w131 ⟨v211, rfl, ho0, hb⟩; replace HO_165001 := Aside0.mk (Kd.R_below (rA HO_165001.out) hb); replace HO_170001 := Aside0.mk (Kd.R_below (rA HO_170001.out) hb); replace HO_175001 := Aside0.mk (Kd.R_below (rA HO_175001.out) hb); have HO212 := Aside0.mk (Kd.R_lower (Kd.R_new' (Kd.R_new' ho0 (Kd.R_lt (rA HO204.out))) (Kd.R_lt (rA HO208.out))) (below_size (wB3 HB.out GE164.out GE169.out GE174.out))); replace HO204 := Aside0.mk (Kd.R_elder' (rA HO204.out) (Kd.R_base ho0) hb); replace HO208 := Aside0.mk (Kd.R_elder' (rA HO208.out) (Kd.R_base ho0) hb); replace BK164 := kC BK164 hb; replace BK169 := kC BK169 hb; replace BK174 := kC BK174 hb; replace HB := Aside0.mk (below_step (wB3 HB.out GE164.out GE169.out GE174.out) hb); (try clear hb); (try clear hb2); (try clear hk); (try clear hi); (try clear ho0)) | ((with_reducible refine gate_dst (N := 54) rfl ?_); (try (refine gate_guard (by rfl) ?_; dsimp only)); refine Kd.R_lit (Kd.int .i64) _ 3 ?hg (N := 54) ?hd (xs := ([0, 3, 2] : List Int)) (inner := [.int .i64 0, .int .i64 3, .int .i64 2]) (ok := fun _ => True) (okp := fun _ => True) ?hr ?hp (fun _ hk => hk) trivial (Below.refl _ _) (Nat.le_refl _) (by simp) ?_; (case hd => rfl); (case hg => rfl); (case hr => first | (go_simp; done) | (go_simp; rfl)); (case hp => exact (Reps.one (show Kd.M (Kd.int .i64) _ _ _ 0 [.int .i64 0] from rfl) (Reps.one (show Kd.M (Kd.int .i64) _ _ _ 3 [.int .i64 3] from rfl) (Reps.one (show Kd.M (Kd.int .i64) _ _ _ 2 [.int .i64 2] from rfl) (Reps.none _ _))))); intro v215 w132 ho133 hb hg_ hnew_; clear hg_ hnew_; (first | rw [← Ny214.out] at ho133 | (simp only [Int.reduceToNat] at ho133; rw [← Ny214.out] at ho133)); replace HO_165001 := Aside0.mk (Kd.R_below (rA HO_165001.out) hb); replace HO_170001 := Aside0.mk (Kd.R_below (rA HO_170001.out) hb); replace HO_175001 := Aside0.mk (Kd.R_below (rA HO_175001.out) hb); have HO216 := Aside0.mk (Kd.R_lower (Kd.R_new' (Kd.R_new' (Kd.R_new' ho133 (Kd.R_lt (rA HO204.out))) (Kd.R_lt (rA HO208.out))) (Kd.R_lt (rA HO212.out))) (below_size (wB3 HB.out GE164.out GE169.out GE174.out))); replace HO204 := Aside0.mk (Kd.R_elder' (rA HO204.out) (Kd.R_base ho133) hb); replace HO208 := Aside0.mk (Kd.R_elder' (rA HO208.out) (Kd.R_base ho133) hb); replace HO212 := Aside0.mk (Kd.R_elder' (rA HO212.out) (Kd.R_base ho133) hb); replace BK164 := kC BK164 hb; replace BK169 := kC BK169 hb; replace BK174 := kC BK174 hb; replace HB := Aside0.mk (below_step (wB3 HB.out GE164.out GE169.out GE174.out) hb); clear hb ho133; obtain ⟨Ao134, co134, eo134⟩ := Kd.R_slice HO216.out; subst eo134; obtain ⟨Ao135, co135, eo135⟩ := Kd.R_slice HO212.out; subst eo135) | (go_at_call 14; (with_reducible refine (wireloomref05_Alike.calls kj2 _ _ t210 t213 _ _ y214 0 true _ ?side1 ?side2 ?side3 ?side4 A84.out).mono ?_); (case side1 => exact cA (Kd.R_reads' HO212.out).2.2); (case side2 => exact (Kd.R_reads' HO212.out).2.1); (case side3 => exact cA (Kd.R_reads' HO216.out).2.2); (case side4 => exact (Kd.R_reads' HO216.out).2.1); rintro e w136 ⟨rfl, hb⟩; replace HO_165001 := Aside0.mk (Kd.R_below (rA HO_165001.out) hb); replace HO_170001 := Aside0.mk (Kd.R_below (rA HO_170001.out) hb); replace HO_175001 := Aside0.mk (Kd.R_below (rA HO_175001.out) hb); replace HO204 := Aside0.mk (Kd.R_below (rA HO204.out) hb); replace HO208 := Aside0.mk (Kd.R_below (rA HO208.out) hb); replace HO212 := Aside0.mk (Kd.R_below (rA HO212.out) hb); replace HO216 := Aside0.mk (Kd.R_below (rA HO216.out) hb); replace BK164 := kC BK164 hb; replace BK169 := kC BK169 hb; replace BK174 := kC BK174 hb; replace HB := Aside0.mk (below_step (wB3 HB.out GE164.out GE169.out GE174.out) hb); (try clear hb); (try clear hb2); (try clear hk); (try clear hi); have hnb137 := NB174_164.out; have hnc137 := NB164_174.out; have hcz138_0 : w136.cell? ⟨gb174, 0, none⟩ = some (.int .i64 t170) := (blk_cell BK174.out 0).trans rfl; have hcz138_1 : w136.cell? ⟨gb174, 1, none⟩ = some (.slice Ao20 t171.length co20) := (blk_cell BK174.out 1).trans rfl; have hfz138_0 := blk_frozen BK174.out 0; have hfz138_1 := blk_frozen BK174.out 1) | (go_at_call 17; (with_reducible refine (wireloomlaw05_cycle.calls t170 _ _ t171 t218 t221 _ ?side1 ?side2 A86.out).mono ?_); (case side1 => exact cA (Kd.R_reads' HO_175001.out).2.2); (case side2 => exact (Kd.R_reads' HO_175001.out).2.1); rintro e w139 ⟨v219, rfl, ho0, hb⟩; replace HO_165001 := Aside0.mk (Kd.R_below (rA HO_165001.out) hb); replace HO_170001 := Aside0.mk (Kd.R_below (rA HO_170001.out) hb); replace HO_175001 := Aside0.mk (Kd.R_below (rA HO_175001.out) hb); have HO220 := Aside0.mk (Kd.R_lower (Kd.R_new' (Kd.R_new' (Kd.R_new' (Kd.R_new' ho0 (Kd.R_lt (rA HO204.out))) (Kd.R_lt (rA HO208.out))) (Kd.R_lt (rA HO212.out))) (Kd.R_lt (rA HO216.out))) (below_size (wB3 HB.out GE164.out GE169.out GE174.out))); replace HO204 := Aside0.mk (Kd.R_elder' (rA HO204.out) (Kd.R_base ho0) hb); replace HO208 := Aside0.mk (Kd.R_elder' (rA HO208.out) (Kd.R_base ho0) hb); replace HO212 := Aside0.mk (Kd.R_elder' (rA HO212.out) (Kd.R_base ho0) hb); replace HO216 := Aside0.mk (Kd.R_elder' (rA HO216.out) (Kd.R_base ho0) hb); replace BK164 := kC BK164 hb; replace BK169 := kC BK169 hb; replace BK174 := kC BK174 hb; replace HB := Aside0.mk (below_step (wB3 HB.out GE164.out GE169.out GE174.out) hb); (try clear hb); (try clear hb2); (try clear hk); (try clear hi); (try clear ho0)) | ((with_reducible refine gate_dst (N := 62) rfl ?_); (try (refine gate_guard (by rfl) ?_; dsimp only)); refine Kd.R_lit (Kd.int .i64) _ 3 ?hg (N := 62) ?hd (xs := ([1] : List Int)) (inner := [.int .i64 1]) (ok := fun _ => True) (okp := fun _ => True) ?hr ?hp (fun _ hk => hk) trivial (Below.refl _ _) (Nat.le_refl _) (by simp) ?_; (case hd => rfl); (case hg => rfl); (case hr => first | (go_simp; done) | (go_simp; rfl)); (case hp => exact (Reps.one (show Kd.M (Kd.int .i64) _ _ _ 1 [.int .i64 1] from rfl) (Reps.none _ _))); intro v223 w140 ho141 hb hg_ hnew_; clear hg_ hnew_; (first | rw [← Ny222.out] at ho141 | (simp only [Int.reduceToNat] at ho141; rw [← Ny222.out] at ho141)); replace HO_165001 := Aside0.mk (Kd.R_below (rA HO_165001.out) hb); replace HO_170001 := Aside0.mk (Kd.R_below (rA HO_170001.out) hb); replace HO_175001 := Aside0.mk (Kd.R_below (rA HO_175001.out) hb); have HO224 := Aside0.mk (Kd.R_lower (Kd.R_new' (Kd.R_new' (Kd.R_new' (Kd.R_new' (Kd.R_new' ho141 (Kd.R_lt (rA HO204.out))) (Kd.R_lt (rA HO208.out))) (Kd.R_lt (rA HO212.out))) (Kd.R_lt (rA HO216.out))) (Kd.R_lt (rA HO220.out))) (below_size (wB3 HB.out GE164.out GE169.out GE174.out))); replace HO204 := Aside0.mk (Kd.R_elder' (rA HO204.out) (Kd.R_base ho141) hb); replace HO208 := Aside0.mk (Kd.R_elder' (rA HO208.out) (Kd.R_base ho141) hb); replace HO212 := Aside0.mk (Kd.R_elder' (rA HO212.out) (Kd.R_base ho141) hb); replace HO216 := Aside0.mk (Kd.R_elder' (rA HO216.out) (Kd.R_base ho141) hb); replace HO220 := Aside0.mk (Kd.R_elder' (rA HO220.out) (Kd.R_base ho141) hb); replace BK164 := kC BK164 hb; replace BK169 := kC BK169 hb; replace BK174 := kC BK174 hb; replace HB := Aside0.mk (below_step (wB3 HB.out GE164.out GE169.out GE174.out) hb); clear hb ho141; obtain ⟨Ao142, co142, eo142⟩ := Kd.R_slice HO224.out; subst eo142; obtain ⟨Ao143, co143, eo143⟩ := Kd.R_slice HO220.out; subst eo143) | (go_at_call 14; (with_reducible refine (wireloomref05_Alike.calls kj2 _ _ t218 t221 _ _ y222 0 false _ ?side1 ?side2 ?side3 ?side4 A87.out).mono ?_); (case side1 => exact cA (Kd.R_reads' HO220.out).2.2); (case side2 => exact (Kd.R_reads' HO220.out).2.1); (case side3 => exact cA (Kd.R_reads' HO224.out).2.2); (case side4 => exact (Kd.R_reads' HO224.out).2.1); rintro e w144 ⟨rfl, hb⟩; replace HO_165001 := Aside0.mk (Kd.R_below (rA HO_165001.out) hb); replace HO_170001 := Aside0.mk (Kd.R_below (rA HO_170001.out) hb); replace HO_175001 := Aside0.mk (Kd.R_below (rA HO_175001.out) hb); replace HO204 := Aside0.mk (Kd.R_below (rA HO204.out) hb); replace HO208 := Aside0.mk (Kd.R_below (rA HO208.out) hb); replace HO212 := Aside0.mk (Kd.R_below (rA HO212.out) hb); replace HO216 := Aside0.mk (Kd.R_below (rA HO216.out) hb); replace HO220 := Aside0.mk (Kd.R_below (rA HO220.out) hb); replace HO224 := Aside0.mk (Kd.R_below (rA HO224.out) hb); replace BK164 := kC BK164 hb; replace BK169 := kC BK169 hb; replace BK174 := kC BK174 hb; replace HB := Aside0.mk (below_step (wB3 HB.out GE164.out GE169.out GE174.out) hb); (try clear hb); (try clear hb2); (try clear hk); (try clear hi)))
       go_meet
       case rel => exact ⟨_, (true), rS, H', ⟨by have := HJ2.out; first | omega | exact Nat.le_refl _⟩, ⟨rA HO_165001.out⟩, ⟨rA HO_170001.out⟩, ⟨rA HO_175001.out⟩, ⟨bA BK164.out⟩, ⟨bA BK169.out⟩, ⟨bA BK174.out⟩, ⟨wB3 HB.out GE164.out GE169.out GE174.out⟩⟩
     ·replace c85 := Bool.eq_false_iff.mpr c85
      subst c85
      have H1 : (none) = some r := by rw [if_neg (show ¬ (false = true) by decide)] at H; exact H
      clear H
      have H := H1
      clear H1
      exact absurd H (by simp)
    case rest =>
     clear HC78
     try clear c1; try clear c2; try clear p2; try clear c3; try clear c5; try clear c7; try clear c8; try clear c9; try clear c10; try clear c11; try clear c12; try clear c13; try clear c14; try clear c15; try clear c17; try clear c18; try clear c23; try clear c26; try clear c29; try clear c31; try clear c32; try clear c55; try clear c56; try clear c77; try clear c80; try clear c80b0; try clear c80b1; try clear c82; try clear c82b0; try clear c82b1; try clear c85; try clear c88; try clear c91; try clear c92; try clear c104; try clear c124; try clear c125; try clear c137; try clear hcz105_0; try clear hcz105_1
     try clear hcz112_0; try clear hcz112_1; try clear hcz126_0; try clear hcz126_1; try clear hcz128_0; try clear hcz128_1; try clear hcz12_0; try clear hcz12_1; try clear hcz130_0; try clear hcz130_1; try clear hcz138_0; try clear hcz138_1; try clear hcz14_0; try clear hcz14_1; try clear hcz19_0; try clear hcz19_1; try clear hcz33_0; try clear hcz33_1; try clear hcz40_0; try clear hcz40_1; try clear hcz47_0; try clear hcz47_1; try clear hcz53_0; try clear hcz53_1; try clear hcz57_0; try clear hcz57_1; try clear hcz64_0; try clear hcz64_1; try clear hcz71_0; try clear hcz71_1; try clear hcz8_0; try clear hcz8_1; try clear hcz93_0; try clear hcz93_1; try clear hcz95_0; try clear hcz95_1; try clear hcz97_0; try clear hcz97_1; try clear hfz105_0; try clear hfz105_1
     try clear hfz112_0; try clear hfz112_1; try clear hfz126_0; try clear hfz126_1; try clear hfz128_0; try clear hfz128_1; try clear hfz12_0; try clear hfz12_1; try clear hfz130_0; try clear hfz130_1; try clear hfz138_0; try clear hfz138_1; try clear hfz14_0; try clear hfz14_1; try clear hfz19_0; try clear hfz19_1; try clear hfz33_0; try clear hfz33_1; try clear hfz40_0; try clear hfz40_1; try clear hfz47_0; try clear hfz47_1; try clear hfz53_0; try clear hfz53_1; try clear hfz57_0; try clear hfz57_1; try clear hfz64_0; try clear hfz64_1; try clear hfz71_0; try clear hfz71_1; try clear hfz8_0; try clear hfz8_1; try clear hfz93_0; try clear hfz93_1; try clear hfz95_0; try clear hfz95_1; try clear hfz97_0; try clear hfz97_1; try clear p2
     obtain ⟨kq, x76_77, rfl, HA, HJ77, HO_165001, HO_170001, HO_175001, BK164, BK169, BK174, HB⟩ := hcut
     cases kq with
     | zero => exact absurd HA.out (by simp [wireloomlaw05_examples.j1])
     | succ kj77 =>
      have H := HA.out
      clear HA
      simp only [wireloomlaw05_examples.j1] at H
      by_cases c145 : x76_77 = true
      ·subst c145
       have H1 : (none) = some r := by rw [if_pos rfl] at H; exact H
       clear H
       have H := H1
       clear H1
       exact absurd H (by simp)
      ·replace c145 := Bool.eq_false_iff.mpr c145
       subst c145
       have H1 : ((digraph_Valid.f kj77 4 y161).bind fun t239 => (if t239 = true then ((digraph_Valid.f kj77 3 y161).bind fun t240 => (if t240 = true then (none) else ((digraph_Check.f 4 y161 (([2, 0, 1, 3] : List Int))).bind fun t244 => (if t244 = 0 then ((digraph_Check.f 4 y161 (([0, 1, 2, 3] : List Int))).bind fun t248 => (if t248 = 6 then ((wireloomlaw05_order.f 0 ([] : List (S55))).bind fun bt249 => (if bt249.2 = 0 then ((digraph_Reach.f 4 y161 4).bind fun t253 => (some ((t253.length : Int) == 0))) else (none))) else (none))) else (none))))) else (none))) = some r := by rw [if_neg (show ¬ (false = true) by decide)] at H; exact H
       clear H
       have H := H1
       clear H1
       replace H := Option.bind_eq_some_iff.mp H
       obtain ⟨t239, A1460, H⟩ := H
       replace H : (if t239 = true then ((digraph_Valid.f kj77 3 y161).bind fun t240 => (if t240 = true then (none) else ((digraph_Check.f 4 y161 (([2, 0, 1, 3] : List Int))).bind fun t244 => (if t244 = 0 then ((digraph_Check.f 4 y161 (([0, 1, 2, 3] : List Int))).bind fun t248 => (if t248 = 6 then ((wireloomlaw05_order.f 0 ([] : List (S55))).bind fun bt249 => (if bt249.2 = 0 then ((digraph_Reach.f 4 y161 4).bind fun t253 => (some ((t253.length : Int) == 0))) else (none))) else (none))) else (none))))) else (none)) = some r := H
       have A146 := Aside0.mk A1460
       clear A1460
       by_cases c147 : t239 = true
       ·subst c147
        have H1 : ((digraph_Valid.f kj77 3 y161).bind fun t240 => (if t240 = true then (none) else ((digraph_Check.f 4 y161 (([2, 0, 1, 3] : List Int))).bind fun t244 => (if t244 = 0 then ((digraph_Check.f 4 y161 (([0, 1, 2, 3] : List Int))).bind fun t248 => (if t248 = 6 then ((wireloomlaw05_order.f 0 ([] : List (S55))).bind fun bt249 => (if bt249.2 = 0 then ((digraph_Reach.f 4 y161 4).bind fun t253 => (some ((t253.length : Int) == 0))) else (none))) else (none))) else (none))))) = some r := by rw [if_pos rfl] at H; exact H
        clear H
        have H := H1
        clear H1
        replace H := Option.bind_eq_some_iff.mp H
        obtain ⟨t240, A1480, H⟩ := H
        replace H : (if t240 = true then (none) else ((digraph_Check.f 4 y161 (([2, 0, 1, 3] : List Int))).bind fun t244 => (if t244 = 0 then ((digraph_Check.f 4 y161 (([0, 1, 2, 3] : List Int))).bind fun t248 => (if t248 = 6 then ((wireloomlaw05_order.f 0 ([] : List (S55))).bind fun bt249 => (if bt249.2 = 0 then ((digraph_Reach.f 4 y161 4).bind fun t253 => (some ((t253.length : Int) == 0))) else (none))) else (none))) else (none)))) = some r := H
        have A148 := Aside0.mk A1480
        clear A1480
        by_cases c149 : t240 = true
        ·subst c149
         have H1 : (none) = some r := by rw [if_pos rfl] at H; exact H
         clear H
         have H := H1
         clear H1
         exact absurd H (by simp)
        ·replace c149 := Bool.eq_false_iff.mpr c149
         subst c149
         have H1 : ((digraph_Check.f 4 y161 (([2, 0, 1, 3] : List Int))).bind fun t244 => (if t244 = 0 then ((digraph_Check.f 4 y161 (([0, 1, 2, 3] : List Int))).bind fun t248 => (if t248 = 6 then ((wireloomlaw05_order.f 0 ([] : List (S55))).bind fun bt249 => (if bt249.2 = 0 then ((digraph_Reach.f 4 y161 4).bind fun t253 => (some ((t253.length : Int) == 0))) else (none))) else (none))) else (none))) = some r := by rw [if_neg (show ¬ (false = true) by decide)] at H; exact H
         clear H
         have H := H1
         clear H1
         obtain ⟨y241, hy241⟩ : ∃ y_ : List Int, y_ = (([2, 0, 1, 3] : List Int)) := ⟨_, rfl⟩
         replace H : ((digraph_Check.f 4 y161 y241).bind fun t244 => (if t244 = 0 then ((digraph_Check.f 4 y161 (([0, 1, 2, 3] : List Int))).bind fun t248 => (if t248 = 6 then ((wireloomlaw05_order.f 0 ([] : List (S55))).bind fun bt249 => (if bt249.2 = 0 then ((digraph_Reach.f 4 y161 4).bind fun t253 => (some ((t253.length : Int) == 0))) else (none))) else (none))) else (none))) = some r := by first | (rw [hy241]; with_reducible exact H) | (have H2_ := (Option.bind_some _ _).symm.trans H; rw [hy241]; with_reducible exact H2_) | (have H2_ := (Option.bind_some _ _).symm.trans H; with_reducible exact H2_) | with_reducible exact H | (rw [hy241]; exact H) | exact H
         have Ny241 := Aside0.mk hy241
         clear hy241
         replace H := Option.bind_eq_some_iff.mp H
         obtain ⟨t244, A1500, H⟩ := H
         replace H : (if t244 = 0 then ((digraph_Check.f 4 y161 (([0, 1, 2, 3] : List Int))).bind fun t248 => (if t248 = 6 then ((wireloomlaw05_order.f 0 ([] : List (S55))).bind fun bt249 => (if bt249.2 = 0 then ((digraph_Reach.f 4 y161 4).bind fun t253 => (some ((t253.length : Int) == 0))) else (none))) else (none))) else (none)) = some r := H
         have A150 := Aside0.mk A1500
         clear A1500
         by_cases c151 : t244 = 0
         rotate_left
         ·rw [if_neg c151] at H
          exact absurd H (by simp)
         rw [if_pos c151] at H
         have c151b0 : (t244 == 0) = true := beq_iff_eq.mpr c151
         have c151b1 : (t244 != 0) = false := bne_eq_false_iff_eq.mpr c151
         clear c151
         obtain ⟨y245, hy245⟩ : ∃ y_ : List Int, y_ = (([0, 1, 2, 3] : List Int)) := ⟨_, rfl⟩
         replace H : ((digraph_Check.f 4 y161 y245).bind fun t248 => (if t248 = 6 then ((wireloomlaw05_order.f 0 ([] : List (S55))).bind fun bt249 => (if bt249.2 = 0 then ((digraph_Reach.f 4 y161 4).bind fun t253 => (some ((t253.length : Int) == 0))) else (none))) else (none))) = some r := by first | (rw [hy245]; with_reducible exact H) | (have H2_ := (Option.bind_some _ _).symm.trans H; rw [hy245]; with_reducible exact H2_) | (have H2_ := (Option.bind_some _ _).symm.trans H; with_reducible exact H2_) | with_reducible exact H | (rw [hy245]; exact H) | exact H
         have Ny245 := Aside0.mk hy245
         clear hy245
         replace H := Option.bind_eq_some_iff.mp H
         obtain ⟨t248, A1520, H⟩ := H
         replace H : (if t248 = 6 then ((wireloomlaw05_order.f 0 ([] : List (S55))).bind fun bt249 => (if bt249.2 = 0 then ((digraph_Reach.f 4 y161 4).bind fun t253 => (some ((t253.length : Int) == 0))) else (none))) else (none)) = some r := H
         have A152 := Aside0.mk A1520
         clear A1520
         by_cases c153 : t248 = 6
         rotate_left
         ·rw [if_neg c153] at H
          exact absurd H (by simp)
         rw [if_pos c153] at H
         have c153b0 : (t248 == 6) = true := beq_iff_eq.mpr c153
         have c153b1 : (t248 != 6) = false := bne_eq_false_iff_eq.mpr c153
         clear c153
         replace H := Option.bind_eq_some_iff.mp H
         obtain ⟨⟨t249, t252⟩, A1540, H⟩ := H
         replace H : (if t252 = 0 then ((digraph_Reach.f 4 y161 4).bind fun t253 => (some ((t253.length : Int) == 0))) else (none)) = some r := H
         have A154 := Aside0.mk A1540
         clear A1540
         by_cases c155 : t252 = 0
         rotate_left
         ·rw [if_neg c155] at H
          exact absurd H (by simp)
         rw [if_pos c155] at H
         have c155b0 : (t252 == 0) = true := beq_iff_eq.mpr c155
         have c155b1 : (t252 != 0) = false := bne_eq_false_iff_eq.mpr c155
         clear c155
         replace H := Option.bind_eq_some_iff.mp H
         obtain ⟨t253, A1560, H⟩ := H
         replace H : (some ((t253.length : Int) == 0)) = some r := H
         have A156 := Aside0.mk A1560
         clear A1560
         obtain rfl := Option.some.inj H
         have hnb157 := NB164_169.out
         have hnc157 := NB169_164.out
         have hnb158 := NB164_174.out
         have hnc158 := NB174_164.out
         have hcz159_0 : wc.cell? ⟨gb164, 0, none⟩ = some (.int .i64 4) := (blk_cell BK164.out 0).trans rfl
         have hcz159_1 : wc.cell? ⟨gb164, 1, none⟩ = some (.slice Ao6 y161.length co6) := (blk_cell BK164.out 1).trans rfl
         have hfz159_0 := blk_frozen BK164.out 0
         have hfz159_1 := blk_frozen BK164.out 1
         go_wp2_with (first | ((with_reducible refine gate_callee (f := 12) rfl ?_); refine goesL_ (some 79) rfl rfl Try.func12 (by kernel_rfl) rfl #[.int .i64 4, .slice Ao6 y161.length co6] rfl (by (try simp only [List.map_toArray, List.map_cons, List.map_nil]); first | done | rfl | (simp only [List.length_drop, List.length_take]; rfl)) ?_; (with_reducible refine (digraph_Valid.calls kj77 4 _ _ y161 true _ ?side1 ?side2 A146.out).mono ?_); (case side1 => exact cA (Kd.R_reads' HO_165001.out).2.2); (case side2 => exact (Kd.R_reads' HO_165001.out).2.1); rintro e w160 ⟨rfl, hb⟩; refine ⟨_, rfl, ?_⟩; replace HO_165001 := Aside0.mk (Kd.R_below (rA HO_165001.out) hb); replace HO_170001 := Aside0.mk (Kd.R_below (rA HO_170001.out) hb); replace HO_175001 := Aside0.mk (Kd.R_below (rA HO_175001.out) hb); replace BK164 := kC BK164 hb; replace BK169 := kC BK169 hb; replace BK174 := kC BK174 hb; replace HB := Aside0.mk (below_step (wB3 HB.out GE164.out GE169.out GE174.out) hb); (try clear hb); (try clear hb2); (try clear hk); (try clear hi); have hcz161_0 : w160.cell? ⟨gb164, 0, none⟩ = some (.int .i64 4) := (blk_cell BK164.out 0).trans rfl; have hcz161_1 : w160.cell? ⟨gb164, 1, none⟩ = some (.slice Ao6 y161.length co6) := (blk_cell BK164.out 1).trans rfl; have hfz161_0 := blk_frozen BK164.out 0; have hfz161_1 := blk_frozen BK164.out 1) | (go_at_call 12; (with_reducible refine (digraph_Valid.calls kj77 3 _ _ y161 false _ ?side1 ?side2 A148.out).mono ?_); (case side1 => exact cA (Kd.R_reads' HO_165001.out).2.2); (case side2 => exact (Kd.R_reads' HO_165001.out).2.1); rintro e w162 ⟨rfl, hb⟩; replace HO_165001 := Aside0.mk (Kd.R_below (rA HO_165001.out) hb); replace HO_170001 := Aside0.mk (Kd.R_below (rA HO_170001.out) hb); replace HO_175001 := Aside0.mk (Kd.R_below (rA HO_175001.out) hb); replace BK164 := kC BK164 hb; replace BK169 := kC BK169 hb; replace BK174 := kC BK174 hb; replace HB := Aside0.mk (below_step (wB3 HB.out GE164.out GE169.out GE174.out) hb); (try clear hb); (try clear hb2); (try clear hk); (try clear hi); have hcz163_0 : w162.cell? ⟨gb164, 0, none⟩ = some (.int .i64 4) := (blk_cell BK164.out 0).trans rfl; have hcz163_1 : w162.cell? ⟨gb164, 1, none⟩ = some (.slice Ao6 y161.length co6) := (blk_cell BK164.out 1).trans rfl; have hfz163_0 := blk_frozen BK164.out 0; have hfz163_1 := blk_frozen BK164.out 1) | ((with_reducible refine gate_dst (N := 89) rfl ?_); (try (refine gate_guard (by rfl) ?_; dsimp only)); refine Kd.R_lit (Kd.int .i64) _ 3 ?hg (N := 89) ?hd (xs := ([2, 0, 1, 3] : List Int)) (inner := [.int .i64 2, .int .i64 0, .int .i64 1, .int .i64 3]) (ok := fun _ => True) (okp := fun _ => True) ?hr ?hp (fun _ hk => hk) trivial (Below.refl _ _) (Nat.le_refl _) (by simp) ?_; (case hd => rfl); (case hg => rfl); (case hr => first | (go_simp; done) | (go_simp; rfl)); (case hp => exact (Reps.one (show Kd.M (Kd.int .i64) _ _ _ 2 [.int .i64 2] from rfl) (Reps.one (show Kd.M (Kd.int .i64) _ _ _ 0 [.int .i64 0] from rfl) (Reps.one (show Kd.M (Kd.int .i64) _ _ _ 1 [.int .i64 1] from rfl) (Reps.one (show Kd.M (Kd.int .i64) _ _ _ 3 [.int .i64 3] from rfl) (Reps.none _ _)))))); intro v242 w164 ho165 hb hg_ hnew_; clear hg_ hnew_; (first | rw [← Ny241.out] at ho165 | (simp only [Int.reduceToNat] at ho165; rw [← Ny241.out] at ho165)); replace HO_165001 := Aside0.mk (Kd.R_below (rA HO_165001.out) hb); replace HO_170001 := Aside0.mk (Kd.R_below (rA HO_170001.out) hb); replace HO_175001 := Aside0.mk (Kd.R_below (rA HO_175001.out) hb); have HO243 := Aside0.mk (Kd.R_lower ho165 (below_size (wB3 HB.out GE164.out GE169.out GE174.out))); replace BK164 := kC BK164 hb; replace BK169 := kC BK169 hb; replace BK174 := kC BK174 hb; replace HB := Aside0.mk (below_step (wB3 HB.out GE164.out GE169.out GE174.out) hb); clear hb ho165; obtain ⟨Ao166, co166, eo166⟩ := Kd.R_slice HO243.out; subst eo166) | (go_at_call 21; (with_reducible refine (digraph_Check.calls 4 _ _ y161 _ _ y241 t244 _ ?side1 ?side2 ?side3 ?side4 A150.out).mono ?_); (case side1 => exact cA (Kd.R_reads' HO_165001.out).2.2); (case side2 => exact (Kd.R_reads' HO_165001.out).2.1); (case side3 => exact cA (Kd.R_reads' HO243.out).2.2); (case side4 => exact (Kd.R_reads' HO243.out).2.1); rintro e w167 ⟨rfl, hb⟩; replace HO_165001 := Aside0.mk (Kd.R_below (rA HO_165001.out) hb); replace HO_170001 := Aside0.mk (Kd.R_below (rA HO_170001.out) hb); replace HO_175001 := Aside0.mk (Kd.R_below (rA HO_175001.out) hb); replace HO243 := Aside0.mk (Kd.R_below (rA HO243.out) hb); replace BK164 := kC BK164 hb; replace BK169 := kC BK169 hb; replace BK174 := kC BK174 hb; replace HB := Aside0.mk (below_step (wB3 HB.out GE164.out GE169.out GE174.out) hb); (try clear hb); (try clear hb2); (try clear hk); (try clear hi); have hcz168_0 : w167.cell? ⟨gb164, 0, none⟩ = some (.int .i64 4) := (blk_cell BK164.out 0).trans rfl; have hcz168_1 : w167.cell? ⟨gb164, 1, none⟩ = some (.slice Ao6 y161.length co6) := (blk_cell BK164.out 1).trans rfl; have hfz168_0 := blk_frozen BK164.out 0; have hfz168_1 := blk_frozen BK164.out 1) | ((with_reducible refine gate_dst (N := 96) rfl ?_); (try (refine gate_guard (by rfl) ?_; dsimp only)); refine Kd.R_lit (Kd.int .i64) _ 3 ?hg (N := 96) ?hd (xs := ([0, 1, 2, 3] : List Int)) (inner := [.int .i64 0, .int .i64 1, .int .i64 2, .int .i64 3]) (ok := fun _ => True) (okp := fun _ => True) ?hr ?hp (fun _ hk => hk) trivial (Below.refl _ _) (Nat.le_refl _) (by simp) ?_; (case hd => rfl); (case hg => rfl); (case hr => first | (go_simp; done) | (go_simp; rfl)); (case hp => exact (Reps.one (show Kd.M (Kd.int .i64) _ _ _ 0 [.int .i64 0] from rfl) (Reps.one (show Kd.M (Kd.int .i64) _ _ _ 1 [.int .i64 1] from rfl) (Reps.one (show Kd.M (Kd.int .i64) _ _ _ 2 [.int .i64 2] from rfl) (Reps.one (show Kd.M (Kd.int .i64) _ _ _ 3 [.int .i64 3] from rfl) (Reps.none _ _)))))); intro v246 w169 ho170 hb hg_ hnew_; clear hg_ hnew_; (first | rw [← Ny245.out] at ho170 | (simp only [Int.reduceToNat] at ho170; rw [← Ny245.out] at ho170)); replace HO_165001 := Aside0.mk (Kd.R_below (rA HO_165001.out) hb); replace HO_170001 := Aside0.mk (Kd.R_below (rA HO_170001.out) hb); replace HO_175001 := Aside0.mk (Kd.R_below (rA HO_175001.out) hb); have HO247 := Aside0.mk (Kd.R_lower (Kd.R_new' ho170 (Kd.R_lt (rA HO243.out))) (below_size (wB3 HB.out GE164.out GE169.out GE174.out))); replace HO243 := Aside0.mk (Kd.R_elder' (rA HO243.out) (Kd.R_base ho170) hb); replace BK164 := kC BK164 hb; replace BK169 := kC BK169 hb; replace BK174 := kC BK174 hb; replace HB := Aside0.mk (below_step (wB3 HB.out GE164.out GE169.out GE174.out) hb); clear hb ho170; obtain ⟨Ao171, co171, eo171⟩ := Kd.R_slice HO247.out; subst eo171) | (go_at_call 21; (with_reducible refine (digraph_Check.calls 4 _ _ y161 _ _ y245 t248 _ ?side1 ?side2 ?side3 ?side4 A152.out).mono ?_); (case side1 => exact cA (Kd.R_reads' HO_165001.out).2.2); (case side2 => exact (Kd.R_reads' HO_165001.out).2.1); (case side3 => exact cA (Kd.R_reads' HO247.out).2.2); (case side4 => exact (Kd.R_reads' HO247.out).2.1); rintro e w172 ⟨rfl, hb⟩; replace HO_165001 := Aside0.mk (Kd.R_below (rA HO_165001.out) hb); replace HO_170001 := Aside0.mk (Kd.R_below (rA HO_170001.out) hb); replace HO_175001 := Aside0.mk (Kd.R_below (rA HO_175001.out) hb); replace HO243 := Aside0.mk (Kd.R_below (rA HO243.out) hb); replace HO247 := Aside0.mk (Kd.R_below (rA HO247.out) hb); replace BK164 := kC BK164 hb; replace BK169 := kC BK169 hb; replace BK174 := kC BK174 hb; replace HB := Aside0.mk (below_step (wB3 HB.out GE164.out GE169.out GE174.out) hb); (try clear hb); (try clear hb2); (try clear hk); (try clear hi)) | (go_at_call 15; (refine (wireloomlaw05_order.calls 0 _ _ ([] : List (S55)) t249 t252 _ ?side1 ?side2 A154.out).mono ?_); (case side1 => exact Kd.C_nil _ _); (case side2 => exact Nat.le_refl _); rintro e w173 ⟨v250, rfl, ho0, hb⟩; replace HO_165001 := Aside0.mk (Kd.R_below (rA HO_165001.out) hb); replace HO_170001 := Aside0.mk (Kd.R_below (rA HO_170001.out) hb); replace HO_175001 := Aside0.mk (Kd.R_below (rA HO_175001.out) hb); have HO251 := Aside0.mk (Kd.R_lower (Kd.R_new' (Kd.R_new' ho0 (Kd.R_lt (rA HO243.out))) (Kd.R_lt (rA HO247.out))) (below_size (wB3 HB.out GE164.out GE169.out GE174.out))); replace HO243 := Aside0.mk (Kd.R_elder' (rA HO243.out) (Kd.R_base ho0) hb); replace HO247 := Aside0.mk (Kd.R_elder' (rA HO247.out) (Kd.R_base ho0) hb); replace BK164 := kC BK164 hb; replace BK169 := kC BK169 hb; replace BK174 := kC BK174 hb; replace HB := Aside0.mk (below_step (wB3 HB.out GE164.out GE169.out GE174.out) hb); (try clear hb); (try clear hb2); (try clear hk); (try clear hi); (try clear ho0); have hcz174_0 : w173.cell? ⟨gb164, 0, none⟩ = some (.int .i64 4) := (blk_cell BK164.out 0).trans rfl; have hcz174_1 : w173.cell? ⟨gb164, 1, none⟩ = some (.slice Ao6 y161.length co6) := (blk_cell BK164.out 1).trans rfl; have hfz174_0 := blk_frozen BK164.out 0; have hfz174_1 := blk_frozen BK164.out 1) | (go_at_call 24; (with_reducible refine (digraph_Reach.calls 4 _ _ y161 4 t253 _ ?side1 ?side2 A156.out).mono ?_); (case side1 => exact cA (Kd.R_reads' HO_165001.out).2.2); (case side2 => exact (Kd.R_reads' HO_165001.out).2.1); rintro e w175 ⟨v254, rfl, ho0, hb⟩; replace HO_165001 := Aside0.mk (Kd.R_below (rA HO_165001.out) hb); replace HO_170001 := Aside0.mk (Kd.R_below (rA HO_170001.out) hb); replace HO_175001 := Aside0.mk (Kd.R_below (rA HO_175001.out) hb); have HO255 := Aside0.mk (Kd.R_lower (Kd.R_new' (Kd.R_new' (Kd.R_new' ho0 (Kd.R_lt (rA HO243.out))) (Kd.R_lt (rA HO247.out))) (Kd.R_lt (rA HO251.out))) (below_size (wB3 HB.out GE164.out GE169.out GE174.out))); replace HO243 := Aside0.mk (Kd.R_elder' (rA HO243.out) (Kd.R_base ho0) hb); replace HO247 := Aside0.mk (Kd.R_elder' (rA HO247.out) (Kd.R_base ho0) hb); replace HO251 := Aside0.mk (Kd.R_elder' (rA HO251.out) (Kd.R_base ho0) hb); replace BK164 := kC BK164 hb; replace BK169 := kC BK169 hb; replace BK174 := kC BK174 hb; replace HB := Aside0.mk (below_step (wB3 HB.out GE164.out GE169.out GE174.out) hb); (try clear hb); (try clear hb2); (try clear hk); (try clear hi); (try clear ho0); obtain ⟨Ao176, co176, eo176⟩ := Kd.R_slice HO255.out; subst eo176))
         go_ret
         exact ⟨eS, by repeat (first | (with_reducible first | exact HB.out | apply below_alloc | apply pw_below_drewN | apply below_drew1 | refine below_set ?_ GE164.out | refine below_set ?_ GE169.out | refine below_set ?_ GE174.out) | exact HB.out)⟩
       ·replace c147 := Bool.eq_false_iff.mpr c147
        subst c147
        have H1 : (none) = some r := by rw [if_neg (show ¬ (false = true) by decide)] at H; exact H
        clear H
        have H := H1
        clear H1
        exact absurd H (by simp)
end Go.Proofs.Ytlldjinejckbaaa.PD

end
