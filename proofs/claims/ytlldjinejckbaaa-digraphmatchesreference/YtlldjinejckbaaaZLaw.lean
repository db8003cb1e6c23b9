/- The law DigraphMatchesReference of package digraph holds for every input: what it is called with is opened, the printed text of the law and its plain proof are joined. (Part 6 of 6 of its proof.) -/
import Derived.Lib.SmallJoins
import Derived.Deep.Slices
import Derived.OpenShut
import Derived.WideKeyArr2
import Derived.Test.YtlldjinejckbaaaRows
import Derived.WalkKit
import Derived.ProofKit
import Derived.ShutString
import Derived.ChangeOld
import Derived.Below
import Derived.SizedLaws
import Derived.Test.YtlldjinejckbaaaZ04
set_option linter.unusedVariables false
set_option linter.unusedSimpArgs false
section
namespace Go.Proofs.Ytlldjinejckbaaa.Pt
open Go Go.RowKit Go.Proofs.YtlldjinejckbaaaW.PrintWords Go.Proofs.Ytlldjinejckbaaa.Mod Go.Proofs.Ytlldjinejckbaaa.Pg Go.Proofs.Ytlldjinejckbaaa.Pb Go.Proofs.Ytlldjinejckbaaa.Tj Go.Proofs.Ytlldjinejckbaaa.Po
def Rch (R : Int → Int → Prop) (u v : Int) : Prop := ∃ k, Pa R k u v
theorem Rch.refl (R : Int → Int → Prop) (u : Int) : Rch R u u := ⟨0, rfl⟩
theorem Rch.trans {R : Int → Int → Prop} {u v w : Int} : Rch R u v → Rch R v w → Rch R u w := fun ⟨_, h⟩ ⟨_, h'⟩ => ⟨_, h.add h'⟩
theorem Rch.one {R : Int → Int → Prop} {u v : Int} (h : R u v) : Rch R u v := ⟨1, u, rfl, h⟩
theorem Rch.keep {R : Int → Int → Prop} {P : Int → Prop} (hP : ∀ x y, P x → R x y → P y) {u v : Int} (h : Rch R u v) (hu : P u) : P v := by
 obtain ⟨k, h⟩ := h
 revert v
 induction k with
 | zero => intro v h; cases h; exact hu
 | succ k ih => intro v h; obtain ⟨m, hm, hr⟩ := h; exact hP m v (ih hm) hr
theorem mem_sortA {xs : List Int} {x : Int} : x ∈ sortA xs ↔ x ∈ xs := List.mem_mergeSort
theorem sortA_strict {xs : List Int} (h : xs.Nodup) : (sortA xs).Pairwise (· < ·) := by
 have h1 := List.pairwise_mergeSort (le := fun x y : Int => decide (x ≤ y)) (fun a b c h1 h2 => by simp at *; omega) (fun a b => by simp; omega) xs
 have h2 : (sortA xs).Nodup := (List.mergeSort_perm xs _).nodup_iff.2 h
 exact h1.imp₂ (fun a b hab hne => by simp at hab; omega) h2
structure Cls (R : Int → Int → Prop) (c : List Int) : Prop where
 ne : c ≠ []
 srt : c.Pairwise (· < ·)
 all : ∀ x ∈ c, ∀ y, y ∈ c ↔ Rch R x y ∧ Rch R y x
structure TI (n : Nat) (R : Int → Int → Prop) (G : Int → Prop) (s : TS) : Prop where
 ln : s.num.length = n
 ll : s.low.length = n
 lo : s.opn.length = n
 nd : (s.stack ++ s.out.flatten).Nodup
 rng : ∀ x ∈ s.stack ++ s.out.flatten, 0 ≤ x ∧ x < (n : Int)
 cnt : s.count = ((s.stack ++ s.out.flatten).length : Nat)
 met : ∀ x : Int, 0 ≤ x → x < n → (rd s.num x ≠ 0 ↔ x ∈ s.stack ++ s.out.flatten)
 op : ∀ x : Int, 0 ≤ x → x < n → (opnAt s.opn x = true ↔ x ∈ s.stack)
 inc : s.stack.Pairwise fun a b => rd s.num a < rd s.num b ∧ Rch R a b
 up : ∀ x ∈ s.stack, 1 ≤ rd s.num x ∧ rd s.num x ≤ s.count
 back : ∀ y ∈ s.stack, ∃ x, G x ∧ x ∈ s.stack ∧ rd s.num x ≤ rd s.num y ∧ Rch R y x
 bw : ∀ x ∈ s.stack, ¬ G x → ∀ y, R x y → y ∈ s.stack ++ s.out.flatten
 cls : ∀ c ∈ s.out, Cls R c
 shutd : ∀ x ∈ s.out.flatten, ∀ y, R x y → y ∈ s.out.flatten
theorem out_len {n : Nat} {R : Int → Int → Prop} {G : Int → Prop} {s : TS} (h : TI n R G s) : s.stack.length + s.out.length ≤ n := by
 have h1 := nodup_len h.nd h.rng
 rw [List.length_append] at h1
 have h2 : ∀ l : List (List Int), (∀ c ∈ l, c ≠ []) → l.length ≤ l.flatten.length := fun l => by
  induction l with
  | nil => intro _; simp
  | cons c l ih =>
   intro hc
   have := ih (fun d hd => hc d (by simp [hd]))
   have h3 := List.length_pos_iff.2 (hc c (by simp))
   rw [List.flatten_cons, List.length_append, List.length_cons]; omega
 have := h2 s.out (fun c hc => (h.cls c hc).ne)
 omega
theorem opnAt_set {o : List Bool} {x y : Int} {b : Bool} (hx : 0 ≤ x) (hy : 0 ≤ y) (hl : y < o.length) : opnAt (o.set y.toNat b) x = if x = y then b else opnAt o x := by
 unfold opnAt
 rw [List.getD_eq_getElem?_getD, List.getD_eq_getElem?_getD]
 by_cases e : x = y
 ·subst e; rw [if_pos rfl, List.getElem?_set_self (by omega)]; rfl
 ·rw [if_neg e, List.getElem?_set_ne (by omega)]
theorem opn_fold : ∀ (xs : List Int) (o : List Bool), (∀ y ∈ xs, 0 ≤ y ∧ y < (o.length : Int)) → (xs.foldl (fun o x => o.set x.toNat false) o).length = o.length ∧ ∀ x : Int, 0 ≤ x → (opnAt (xs.foldl (fun o x => o.set x.toNat false) o) x = true ↔ opnAt o x = true ∧ x ∉ xs)
 | [], o, _ => ⟨rfl, fun x _ => by simp⟩
 | y :: xs, o, h => by
  obtain ⟨y0, y1⟩ := h y (by simp)
  obtain ⟨a, b⟩ := opn_fold xs (o.set y.toNat false) (fun z hz => by rw [List.length_set]; exact h z (by simp [hz]))
  refine ⟨by rw [List.foldl_cons, a, List.length_set], fun x hx => ?_⟩
  rw [List.foldl_cons, b x hx, opnAt_set hx y0 y1]
  by_cases e : x = y
  ·subst e; simp
  ·simp [e]
theorem TI.meet {n : Nat} (hn : n ≤ 1000) {R : Int → Int → Prop} {G : Int → Prop} {s : TS} (h : TI n R G s) {v : Int} (v0 : 0 ≤ v) (v1 : v < n) (hv : rd s.num v = 0) (hG : ∀ x, G x → Rch R x v) :
  TI n R (fun x => G x ∨ x = v) (s.meet v) ∧ rd (s.meet v).num v = s.count + 1 ∧ rd (s.meet v).low v = s.count + 1 ∧ (s.meet v).count = s.count + 1 ∧ (∀ x ∈ s.stack ++ s.out.flatten, rd (s.meet v).num x = rd s.num x ∧ rd (s.meet v).low x = rd s.low x) := by
 have hvm : v ∉ s.stack ++ s.out.flatten := fun hm => (h.met v v0 v1).2 hm hv
 have hvs : v ∉ s.stack := fun hm => hvm (List.mem_append_left _ hm)
 have hvo : v ∉ s.out.flatten := fun hm => hvm (List.mem_append_right _ hm)
 have hlen := nodup_len h.nd h.rng
 have hc := h.cnt
 have hw : wrap64 (s.count + 1) = s.count + 1 := Po.wrap_small (by omega) (by omega)
 have hnum : ∀ x, 0 ≤ x → rd (s.meet v).num x = if x = v then s.count + 1 else rd s.num x := fun x hx => by
  show rd (s.num.set v.toNat (wrap64 (s.count + 1))) x = _
  rw [hw]
  by_cases e : x = v
  ·subst e; rw [if_pos rfl, rd_set_same _ _ _ v0 (by rw [h.ln]; exact v1)]
  ·rw [if_neg e, rd_set_other _ _ _ _ hx v0 e]
 have hlow : ∀ x, 0 ≤ x → rd (s.meet v).low x = if x = v then s.count + 1 else rd s.low x := fun x hx => by
  show rd (s.low.set v.toNat (wrap64 (s.count + 1))) x = _
  rw [hw]
  by_cases e : x = v
  ·subst e; rw [if_pos rfl, rd_set_same _ _ _ v0 (by rw [h.ll]; exact v1)]
  ·rw [if_neg e, rd_set_other _ _ _ _ hx v0 e]
 have hold : ∀ x ∈ s.stack ++ s.out.flatten, rd (s.meet v).num x = rd s.num x ∧ rd (s.meet v).low x = rd s.low x := fun x hx => by
  have hne : x ≠ v := fun e => hvm (e ▸ hx)
  have := (h.rng x hx).1
  rw [hnum x this, hlow x this, if_neg hne, if_neg hne]; exact ⟨rfl, rfl⟩
 have hms : ∀ x, x ∈ (s.meet v).stack ++ (s.meet v).out.flatten ↔ x ∈ s.stack ++ s.out.flatten ∨ x = v := fun x => by
  show x ∈ (s.stack ++ [v]) ++ s.out.flatten ↔ _
  simp only [List.mem_append, List.mem_singleton]
  constructor
  ·rintro ((h | h) | h)
   ·exact .inl (.inl h)
   ·exact .inr h
   ·exact .inl (.inr h)
  ·rintro ((h | h) | h)
   ·exact .inl (.inl h)
   ·exact .inr h
   ·exact .inl (.inr h)
 have hst : ∀ x, x ∈ (s.meet v).stack ↔ x ∈ s.stack ∨ x = v := fun x => by show x ∈ s.stack ++ [v] ↔ _; simp
 refine ⟨⟨?_, ?_, ?_, ?_, fun x hx => ?_, ?_, fun x x0 x1 => ?_, fun x x0 x1 => ?_, ?_, fun x hx => ?_, fun y hy => ?_, fun x hx hg y hy => ?_, h.cls, h.shutd⟩, by rw [hnum v v0, if_pos rfl], by rw [hlow v v0, if_pos rfl], hw, hold⟩
 ·show (s.num.set _ _).length = n; rw [List.length_set, h.ln]
 ·show (s.low.set _ _).length = n; rw [List.length_set, h.ll]
 ·show (s.opn.set _ _).length = n; rw [List.length_set, h.lo]
 ·have hp : (((s.stack ++ [v]) ++ s.out.flatten)).Perm (v :: (s.stack ++ s.out.flatten)) := by
   rw [List.append_assoc]
   exact List.perm_middle
  show ((s.stack ++ [v]) ++ s.out.flatten).Nodup
  rw [hp.nodup_iff, List.nodup_cons]
  exact ⟨hvm, h.nd⟩
 ·rcases (hms x).1 hx with hx | hx
  ·exact h.rng x hx
  ·subst hx; exact ⟨v0, v1⟩
 ·show wrap64 (s.count + 1) = (((s.stack ++ [v]) ++ s.out.flatten).length : Nat)
  rw [hw, hc]
  simp only [List.length_append, List.length_cons, List.length_nil]; omega
 ·rw [hms, hnum x x0]
  by_cases e : x = v
  ·rw [if_pos e]; exact ⟨fun _ => .inr e, fun _ => by omega⟩
  ·rw [if_neg e, h.met x x0 x1]; exact ⟨fun h => .inl h, fun h => h.resolve_right e⟩
 ·rw [hst]
  show opnAt (s.opn.set v.toNat true) x = true ↔ _
  rw [opnAt_set x0 v0 (by rw [h.lo]; exact v1)]
  by_cases e : x = v
  ·rw [if_pos e]; exact ⟨fun _ => .inr e, fun _ => rfl⟩
  ·rw [if_neg e, h.op x x0 x1]; exact ⟨fun h => .inl h, fun h => h.resolve_right e⟩
 ·show (s.stack ++ [v]).Pairwise _
  rw [List.pairwise_append]
  refine ⟨h.inc.imp_of_mem (fun {a b} ha hb hab => ?_), by simp, fun a ha b hb => ?_⟩
  ·rw [(hold a (List.mem_append_left _ ha)).1, (hold b (List.mem_append_left _ hb)).1]; exact hab
  ·rw [List.mem_singleton] at hb
   subst hb
   rw [(hold a (List.mem_append_left _ ha)).1, hnum b v0, if_pos rfl]
   obtain ⟨x, hx, _, _, hr⟩ := h.back a ha
   have := (h.up a ha).2
   exact ⟨by omega, hr.trans (hG x hx)⟩
 ·show _ ∧ _ ≤ wrap64 (s.count + 1)
  rw [hw]
  rcases (hst x).1 hx with hx | hx
  ·rw [(hold x (List.mem_append_left _ hx)).1]
   have := h.up x hx
   omega
  ·subst hx; rw [hnum x v0, if_pos rfl]; omega
 ·rcases (hst y).1 hy with hy | hy
  ·obtain ⟨x, hx, hxs, hle, hr⟩ := h.back y hy
   exact ⟨x, .inl hx, (hst x).2 (.inl hxs), by rw [(hold x (List.mem_append_left _ hxs)).1, (hold y (List.mem_append_left _ hy)).1]; exact hle, hr⟩
  ·exact ⟨v, .inr rfl, (hst v).2 (.inr rfl), by rw [hy]; exact Int.le_refl _, by rw [hy]; exact Rch.refl R v⟩
 ·rcases (hst x).1 hx with hx | hx
  ·exact (hms y).2 (.inl (h.bw x hx (fun hh => hg (.inl hh)) y hy))
  ·exact absurd (.inr hx) hg
theorem TI.lower {n : Nat} {R : Int → Int → Prop} {G : Int → Prop} {s : TS} (h : TI n R G s) (v x : Int) : TI n R G (s.lower v x) :=
 ⟨h.ln, by show (s.low.set _ _).length = n; rw [List.length_set, h.ll], h.lo, h.nd, h.rng, h.cnt, h.met, h.op, h.inc, h.up, h.back, h.bw, h.cls, h.shutd⟩
structure VP (n : Nat) (R : Int → Int → Prop) (G : Int → Prop) (v : Int) (s s' : TS) (ext : List Int) (more : List (List Int)) : Prop where
 ti : TI n R G s'
 st : s'.stack = s.stack ++ ext
 ot : s'.out = s.out ++ more
 num : ∀ x ∈ s.stack ++ s.out.flatten, rd s'.num x = rd s.num x
 low : ∀ x ∈ s.stack ++ s.out.flatten, rd s'.low x = rd s.low x
 vm : v ∈ s'.stack ++ s'.out.flatten
 wit : (∃ y ∈ s'.stack, rd s'.num y = rd s'.low v ∧ Rch R v y) ∨ s.count < rd s'.low v
 cross : ∀ x ∈ ext, ∀ y ∈ s.stack, R x y → rd s'.low v ≤ rd s.num y
structure LI (n : Nat) (R : Int → Int → Prop) (G : Int → Prop) (v : Int) (s0 : TS) (D : List Int) (s : TS) (ext : List Int) (more : List (List Int)) : Prop where
 ti : TI n R (fun x => G x ∨ x = v) s
 st : s.stack = s0.stack ++ v :: ext
 ot : s.out = s0.out ++ more
 num : ∀ x ∈ s0.stack ++ s0.out.flatten, rd s.num x = rd s0.num x
 low : ∀ x ∈ s0.stack ++ s0.out.flatten, rd s.low x = rd s0.low x
 nv : rd s.num v = s0.count + 1
 lv : rd s.low v ≤ s0.count + 1
 wit : ∃ y ∈ s.stack, rd s.num y = rd s.low v ∧ Rch R v y
 cross : ∀ x ∈ ext, ∀ y ∈ s0.stack, R x y → rd s.low v ≤ rd s0.num y
 crv : ∀ y ∈ D, y ∈ s0.stack → rd s.low v ≤ rd s0.num y
 dm : ∀ y ∈ D, y ∈ s.stack ++ s.out.flatten
theorem LI.lower {n : Nat} {R : Int → Int → Prop} {G : Int → Prop} {v : Int} {s0 s : TS} {D : List Int} {ext : List Int} {more : List (List Int)} (h : LI n R G v s0 D s ext more) (v0 : 0 ≤ v) (v1 : v < n) (hv : v ∉ s0.stack ++ s0.out.flatten) (r0 : ∀ x ∈ s0.stack ++ s0.out.flatten, 0 ≤ x) {x w : Int}
  (hx : x < rd s.low v → ∃ y ∈ s.stack, rd s.num y = x ∧ Rch R v y) (hw : w ∈ s0.stack → x ≤ rd s0.num w) (hm : w ∈ s.stack ++ s.out.flatten) : LI n R G v s0 (D ++ [w]) (s.lower v x) ext more := by
 have hl : rd (s.lower v x).low v = min (rd s.low v) x := by
  show rd (s.low.set v.toNat (min (rd s.low v) x)) v = _
  rw [rd_set_same _ _ _ v0 (by rw [h.ti.ll]; exact v1)]
 have hlv := h.lv
 refine ⟨h.ti.lower v x, h.st, h.ot, h.num, fun y hy => ?_, h.nv, by rw [hl]; omega, ?_, fun y hy z hz hr => ?_, fun y hy hys => ?_, fun y hy => ?_⟩
 ·show rd (s.low.set v.toNat (min (rd s.low v) x)) y = _
  rw [rd_set_other _ _ _ _ (r0 y hy) v0 (fun e => hv (e ▸ hy))]
  exact h.low y hy
 ·rw [hl]
  by_cases hlt : x < rd s.low v
  ·obtain ⟨y, a, b, c⟩ := hx hlt
   exact ⟨y, a, by show rd s.num y = _; rw [b]; omega, c⟩
  ·obtain ⟨y, a, b, c⟩ := h.wit
   exact ⟨y, a, by show rd s.num y = _; rw [b]; omega, c⟩
 ·have := h.cross y hy z hz hr
  rw [hl]; omega
 ·rw [hl]
  rcases List.mem_append.1 hy with hy | hy
  ·have := h.crv y hy hys
   omega
  ·rw [List.mem_singleton] at hy; subst hy
   have := hw hys
   omega
 ·rcases List.mem_append.1 hy with hy | hy
  ·exact h.dm y hy
  ·rw [List.mem_singleton] at hy; subst hy; exact hm
theorem LI.skip {n : Nat} {R : Int → Int → Prop} {G : Int → Prop} {v : Int} {s0 s : TS} {D : List Int} {ext : List Int} {more : List (List Int)} (h : LI n R G v s0 D s ext more) {w : Int}
  (hw : w ∉ s0.stack) (hm : w ∈ s.stack ++ s.out.flatten) : LI n R G v s0 (D ++ [w]) s ext more := by
 refine ⟨h.ti, h.st, h.ot, h.num, h.low, h.nv, h.lv, h.wit, h.cross, fun y hy hys => ?_, fun y hy => ?_⟩
 ·rcases List.mem_append.1 hy with hy | hy
  ·exact h.crv y hy hys
  ·rw [List.mem_singleton] at hy; subst hy; exact absurd hys hw
 ·rcases List.mem_append.1 hy with hy | hy
  ·exact h.dm y hy
  ·rw [List.mem_singleton] at hy; subst hy; exact hm
def VS (n : Nat) (R : Int → Int → Prop) (vis : Int → TS → Option TS) (f : Nat) : Prop := ∀ (w : Int) (s : TS) (G : Int → Prop), TI n R G s → 0 ≤ w → w < n → rd s.num w = 0 → (∀ x, G x → Rch R x w) → (∀ x, G x → x ∈ s.stack) → (n : Int) < s.count + f →
 ∃ s' ext more, vis w s = some s' ∧ VP n R G w s s' ext more
theorem visitRow_spec {n : Nat} {R : Int → Int → Prop} {vis : Int → TS → Option TS} {f : Nat} (hV : VS n R vis f) {G : Int → Prop} {v : Int} {s0 : TS} (hT0 : TI n R G s0) (hG : ∀ x, G x → Rch R x v) (hGs : ∀ x, G x → x ∈ s0.stack) (v0 : 0 ≤ v) (v1 : v < n) (hv : v ∉ s0.stack ++ s0.out.flatten) (hf : (n : Int) < s0.count + 1 + f) (hok : ∀ x, R v x → 0 ≤ x ∧ x < n) :
  ∀ (xs D : List Int) (s : TS) (ext : List Int) (more : List (List Int)), LI n R G v s0 D s ext more → (∀ x ∈ xs, R v x) → ∃ s' ext' more', visitRow vis v xs s = some s' ∧ LI n R G v s0 (D ++ xs) s' ext' more'
 | [], D, s, ext, more, h, _ => ⟨s, ext, more, rfl, by rw [List.append_nil]; exact h⟩
 | w :: xs, D, s, ext, more, h, hx => by
  have hr := hx w (by simp)
  obtain ⟨w0, w1⟩ := hok w hr
  have r0 : ∀ x ∈ s0.stack ++ s0.out.flatten, 0 ≤ x := fun x hx => (hT0.rng x hx).1
  have hD : ∀ l : List Int, D ++ w :: l = (D ++ [w]) ++ l := fun l => by simp
  have hsub : ∀ x ∈ s0.stack ++ s0.out.flatten, x ∈ s.stack ++ s.out.flatten := fun x hx => by
   rw [h.st, h.ot, List.flatten_append]
   rcases List.mem_append.1 hx with hx | hx
   ·exact List.mem_append_left _ (List.mem_append_left _ hx)
   ·exact List.mem_append_right _ (List.mem_append_left _ hx)
  have hvst : v ∈ s.stack := by rw [h.st]; simp
  have hcount : s0.count + 1 ≤ s.count := by
   have := (h.ti.up v hvst).2
   rw [h.nv] at this; exact this
  rw [hD]
  unfold visitRow
  by_cases hz : rd s.num w = 0
  ·rw [if_pos hz]
   have hwm : w ∉ s.stack ++ s.out.flatten := fun hm => (h.ti.met w w0 w1).2 hm hz
   obtain ⟨s', ext', more', e, hp⟩ := hV w s _ h.ti w0 w1 hz (fun x hx => by
    rcases hx with hx | hx
    ·exact (hG x hx).trans (Rch.one hr)
    ·subst hx; exact Rch.one hr) (fun x hx => by
    rcases hx with hx | hx
    ·rw [h.st]; exact List.mem_append_left _ (hGs x hx)
    ·subst hx; exact hvst) (by omega)
   rw [e]
   dsimp only
   have hvm : v ∈ s.stack ++ s.out.flatten := List.mem_append_left _ hvst
   have hlv := hp.low v hvm
   have h2 : LI n R G v s0 D s' (ext ++ ext') (more ++ more') ∨ True := .inr trivial
   have hst' : s'.stack = s0.stack ++ v :: (ext ++ ext') := by rw [hp.st, h.st]; simp
   have hot' : s'.out = s0.out ++ (more ++ more') := by rw [hp.ot, h.ot]; simp
   have hnum' : ∀ x ∈ s0.stack ++ s0.out.flatten, rd s'.num x = rd s0.num x := fun x hx => by rw [hp.num x (hsub x hx), h.num x hx]
   have hsub' : ∀ x ∈ s.stack ++ s.out.flatten, x ∈ s'.stack ++ s'.out.flatten := fun x hx => by
    rw [hp.st, hp.ot, List.flatten_append]
    rcases List.mem_append.1 hx with hx | hx
    ·exact List.mem_append_left _ (List.mem_append_left _ hx)
    ·exact List.mem_append_right _ (List.mem_append_left _ hx)
   have hl : rd (s'.lower v (rd s'.low w)).low v = min (rd s.low v) (rd s'.low w) := by
    show rd (s'.low.set v.toNat (min (rd s'.low v) (rd s'.low w))) v = _
    rw [rd_set_same _ _ _ v0 (by rw [hp.ti.ll]; exact v1), hlv]
   have hLI : LI n R G v s0 (D ++ [w]) (s'.lower v (rd s'.low w)) (ext ++ ext') (more ++ more') := by
    refine ⟨hp.ti.lower _ _, hst', hot', hnum', fun y hy => ?_, by show rd s'.num v = _; rw [hp.num v hvm, h.nv], by rw [hl]; have := h.lv; omega, ?_, fun y hy z hz hr => ?_, fun y hy hys => ?_, fun y hy => ?_⟩
    ·show rd (s'.low.set v.toNat (min (rd s'.low v) (rd s'.low w))) y = _
     rw [rd_set_other _ _ _ _ (r0 y hy) v0 (fun e => hv (e ▸ hy)), hp.low y (hsub y hy)]
     exact h.low y hy
    ·rw [hl]
     have hold : ∃ y ∈ s'.stack, rd s'.num y = rd s.low v ∧ Rch R v y := by
      obtain ⟨y, a, b, c⟩ := h.wit
      exact ⟨y, by rw [hp.st]; exact List.mem_append_left _ a, by rw [hp.num y (List.mem_append_left _ a)]; exact b, c⟩
     by_cases hlt : rd s'.low w < rd s.low v
     ·rcases hp.wit with ⟨y, a, b, c⟩ | hc
      ·exact ⟨y, a, by show rd s'.num y = _; rw [b]; omega, (Rch.one hr).trans c⟩
      ·have := h.lv; omega
     ·obtain ⟨y, a, b, c⟩ := hold
      exact ⟨y, a, by show rd s'.num y = _; rw [b]; omega, c⟩
    ·rw [hl]
     rcases List.mem_append.1 hy with hy | hy
     ·have := h.cross y hy z hz hr
      omega
     ·have hzs : z ∈ s.stack := by rw [h.st]; exact List.mem_append_left _ hz
      have := hp.cross y hy z hzs hr
      rw [h.num z (List.mem_append_left _ hz)] at this
      omega
    ·rw [hl]
     rcases List.mem_append.1 hy with hy | hy
     ·have := h.crv y hy hys
      omega
     ·rw [List.mem_singleton] at hy; subst hy
      exact absurd (hsub _ (List.mem_append_left _ hys)) hwm
    ·rcases List.mem_append.1 hy with hy | hy
     ·exact hsub' y (h.dm y hy)
     ·rw [List.mem_singleton] at hy; subst hy; exact hp.vm
   exact visitRow_spec hV hT0 hG hGs v0 v1 hv hf hok xs (D ++ [w]) _ _ _ hLI (fun x hx' => hx x (by simp [hx']))
  ·rw [if_neg hz]
   have hwm : w ∈ s.stack ++ s.out.flatten := (h.ti.met w w0 w1).1 hz
   by_cases ho : opnAt s.opn w = true
   ·rw [if_pos ho]
    have hws := (h.ti.op w w0 w1).1 ho
    exact visitRow_spec hV hT0 hG hGs v0 v1 hv hf hok xs (D ++ [w]) _ _ _ (h.lower v0 v1 hv r0 (fun _ => ⟨w, hws, rfl, Rch.one hr⟩) (fun hh => by rw [h.num w (List.mem_append_left _ hh)]; exact Int.le_refl _) hwm) (fun x hx' => hx x (by simp [hx']))
   ·rw [if_neg ho]
    have hws : w ∉ s.stack := fun hh => ho ((h.ti.op w w0 w1).2 hh)
    exact visitRow_spec hV hT0 hG hGs v0 v1 hv hf hok xs (D ++ [w]) _ _ _ (h.skip (fun hh => hws (by rw [h.st]; exact List.mem_append_left _ hh)) hwm) (fun x hx' => hx x (by simp [hx']))
theorem findIdx_app {a : List Int} {v : Int} {b : List Int} (h : v ∉ a) : (a ++ v :: b).findIdx? (· == v) = some a.length := by
 induction a with
 | nil => simp [List.findIdx?_cons]
 | cons x a ih =>
  rw [List.mem_cons, not_or] at h
  rw [List.cons_append, List.findIdx?_cons]
  have : ¬ (x == v) = true := by simpa using fun e => h.1 (Eq.symm e)
  rw [if_neg this, ih h.2]
  rfl
theorem visit_spec {n : Nat} (hn : n ≤ 1000) {rows : List (List Int)} {R : Int → Int → Prop} (hT : Tells n rows R) : ∀ f : Nat, VS n R (visit rows f) f
 | 0, w, s, G, h, _, _, hw, _, _, hf => by
  have := nodup_len h.nd h.rng
  have := h.cnt
  omega
 | f + 1, v, s0, G, h, v0, v1, hv, hG, hGs, hf => by
  have hvm : v ∉ s0.stack ++ s0.out.flatten := fun hm => (h.met v v0 v1).2 hm hv
  have hvs : v ∉ s0.stack := fun hm => hvm (List.mem_append_left _ hm)
  have hcard := nodup_len h.nd h.rng
  have hcnt := h.cnt
  obtain ⟨m1, m2, m3, m4, m5⟩ := h.meet hn v0 v1 hv hG
  have hrow : ∀ x, x ∈ row rows v ↔ R v x := fun x => hT.row v x v0 v1
  have h0 : LI n R G v s0 [] (s0.meet v) [] [] := by
   refine ⟨m1, rfl, by show s0.out = _; simp, fun x hx => (m5 x hx).1, fun x hx => (m5 x hx).2, m2, by rw [m3]; exact Int.le_refl _, ⟨v, by show v ∈ s0.stack ++ [v]; simp, by rw [m2, m3], Rch.refl R v⟩, by simp, by simp, by simp⟩
  obtain ⟨s, ext, more, e, hL⟩ := visitRow_spec (visit_spec hn hT f) h hG hGs v0 v1 hvm (by omega) (fun x hx => by have := hT.ok v x hx; exact ⟨this.2.2.1, this.2.2.2⟩) (row rows v) [] _ _ _ h0 (fun x hx => (hrow x).1 hx)
  rw [List.nil_append] at hL
  unfold visit
  rw [if_neg (by rw [List.length_append] at hcard; omega), e]
  dsimp only
  have hti := hL.ti
  have hnd : (s0.stack ++ v :: ext).Nodup := by
   have := hti.nd
   rw [hL.st, List.nodup_append] at this
   exact this.1
  have hnd2 := List.nodup_append.1 hnd
  have hnd3 := List.nodup_cons.1 hnd2.2.1
  have hdis : ∀ x, x ∈ s0.stack → x ∉ v :: ext := fun x hx hx' => hnd2.2.2 x hx x hx' rfl
  have hdout : ∀ x ∈ s.stack, x ∉ s.out.flatten := fun x hx hx' => (List.nodup_append.1 hti.nd).2.2 x hx x hx' rfl
  have hvst : v ∈ s.stack := by rw [hL.st]; simp
  have hs0 : ∀ x ∈ s0.stack, x ∈ s.stack := fun x hx => by rw [hL.st]; exact List.mem_append_left _ hx
  have hnum0 : ∀ x ∈ s0.stack, rd s.num x ≤ s0.count := fun x hx => by
   rw [hL.num x (List.mem_append_left _ hx)]; exact (h.up x hx).2
  have hlt : ∀ x ∈ s.stack, rd s.num x < rd s.num v → x ∈ s0.stack := fun x hx hxl => by
   rw [hL.st] at hx
   rcases List.mem_append.1 hx with hx | hx
   ·exact hx
   ·exfalso
    rcases List.mem_cons.1 hx with hx | hx
    ·subst hx; omega
    ·have := hti.inc
     rw [hL.st, List.pairwise_append] at this
     have := ((List.pairwise_cons.1 this.2.1).1 x hx).1
     omega
  by_cases hlow : rd s.low v < rd s.num v
  ·rw [if_pos hlow]
   refine ⟨s, v :: ext, more, rfl, ⟨⟨hti.ln, hti.ll, hti.lo, hti.nd, hti.rng, hti.cnt, hti.met, hti.op, hti.inc, hti.up, fun y hy => ?_, fun x hx hg y hy => ?_, hti.cls, hti.shutd⟩, hL.st, hL.ot, hL.num, hL.low, List.mem_append_left _ hvst, .inl hL.wit, fun x hx y hy hr => ?_⟩⟩
   ·obtain ⟨x, hx, hxs, hle, hr⟩ := hti.back y hy
    rcases hx with hx | hx
    ·exact ⟨x, hx, hxs, hle, hr⟩
    ·subst hx
     obtain ⟨z, a, b, c⟩ := hL.wit
     obtain ⟨x', hx', hxs', hle', hr'⟩ := hti.back z a
     rcases hx' with hx' | hx'
     ·exact ⟨x', hx', hxs', by omega, hr.trans (c.trans hr')⟩
     ·subst hx'; omega
   ·by_cases ev : x = v
    ·subst ev; exact hL.dm y ((hrow y).2 hy)
    ·exact hti.bw x hx (fun hh => hh.elim hg ev) y hy
   ·rcases List.mem_cons.1 hx with hx | hx
    ·subst hx; exact hL.crv y ((hrow y).2 hr) hy
    ·exact hL.cross x hx y hy hr
  ·rw [if_neg hlow]
   have hol := out_len hti
   rw [if_neg (by omega)]
   have hfi : s.stack.findIdx? (· == v) = some s0.stack.length := by rw [hL.st]; exact findIdx_app hvs
   rw [hfi]
   dsimp only
   have hlv : rd s.low v = s0.count + 1 := by have := hL.lv; have := hL.nv; omega
   have hdrop : s.stack.drop s0.stack.length = v :: ext := by rw [hL.st]; simp
   have htake : s.stack.take s0.stack.length = s0.stack := by rw [hL.st]; simp
   have hclosed : ∀ x y, (x ∈ v :: ext ∨ x ∈ s.out.flatten) → R x y → (y ∈ v :: ext ∨ y ∈ s.out.flatten) := fun x y hx hr => by
    have hup : ∀ z, z ∈ s0.stack → rd s0.num z ≤ s0.count := fun z hz => (h.up z hz).2
    rcases hx with hx | hx
    ·have hy : y ∈ s.stack ++ s.out.flatten ∧ (y ∈ s0.stack → False) := by
      rcases List.mem_cons.1 hx with hx | hx
      ·rw [hx] at hr
       exact ⟨hL.dm y ((hrow y).2 hr), fun hy => by have := hL.crv y ((hrow y).2 hr) hy; have := hup y hy; omega⟩
      ·have hxs : x ∈ s.stack := by rw [hL.st]; simp [hx]
       refine ⟨hti.bw x hxs (fun hg => ?_) y hr, fun hy => by have := hL.cross x hx y hy hr; have := hup y hy; omega⟩
       rcases hg with hg | hg
       ·exact hdis x (hGs x hg) (by simp [hx])
       ·subst hg; exact hnd3.1 (by assumption)
     rcases List.mem_append.1 hy.1 with hh | hh
     ·rw [hL.st] at hh
      rcases List.mem_append.1 hh with hh | hh
      ·exact absurd hh hy.2
      ·exact .inl hh
     ·exact .inr hh
    ·exact .inr (hti.shutd x hx y hr)
   have hfw : ∀ y ∈ v :: ext, Rch R v y := fun y hy => by
    rcases List.mem_cons.1 hy with hy | hy
    ·subst hy; exact Rch.refl R y
    ·have := hti.inc
     rw [hL.st, List.pairwise_append] at this
     exact ((List.pairwise_cons.1 this.2.1).1 y hy).2
   have hout0 : ∀ x ∈ s0.stack, ¬ (x ∈ v :: ext ∨ x ∈ s.out.flatten) := fun x hx hh => hh.elim (hdis x hx) (hdout x (hs0 x hx))
   have hbk : ∀ y ∈ v :: ext, Rch R y v := fun y hy => by
    obtain ⟨x, hx, hxs, _, hr⟩ := hti.back y (by rw [hL.st]; exact List.mem_append_right _ hy)
    rcases hx with hx | hx
    ·exact absurd (hr.keep hclosed (.inl hy)) (hout0 x (hGs x hx))
    ·subst hx; exact hr
   have hcls : Cls R (sortA (v :: ext)) := by
    refine ⟨fun e => ?_, sortA_strict hnd2.2.1, fun x hx y => ?_⟩
    ·have : v ∈ sortA (v :: ext) := mem_sortA.2 (by simp)
     rw [e] at this; simp at this
    ·rw [mem_sortA] at hx ⊢
     refine ⟨fun hy => ⟨(hbk x hx).trans (hfw y hy), (hbk y hy).trans (hfw x hx)⟩, fun ⟨h1, h2⟩ => ?_⟩
     rcases h1.keep hclosed (.inl hx) with hh | hh
     ·exact hh
     ·exact absurd (h2.keep (fun a b ha => hti.shutd a ha b) hh) (hdout x (by rw [hL.st]; exact List.mem_append_right _ hx))
   have hfl : (s.out ++ [sortA (v :: ext)]).flatten = s.out.flatten ++ sortA (v :: ext) := by simp
   have hperm : (s0.stack ++ (s.out.flatten ++ sortA (v :: ext))).Perm (s.stack ++ s.out.flatten) := by
    rw [hL.st, List.append_assoc]
    refine List.Perm.append_left _ ?_
    refine List.perm_append_comm.trans (List.Perm.append_right _ ?_)
    exact List.mergeSort_perm _ _
   have hof := opn_fold (s.stack.drop s0.stack.length) s.opn (fun y hy => by
    have := hti.rng y (List.mem_append_left _ (List.mem_of_mem_drop hy))
    rw [hti.lo]; exact this)
   obtain ⟨s1, hs1⟩ : ∃ s1, s1 = s.shut s0.stack.length := ⟨_, rfl⟩
   have a1 : s1.stack = s0.stack := by rw [hs1]; exact htake
   have a2 : s1.out = s.out ++ [sortA (v :: ext)] := by rw [hs1, ← hdrop]; rfl
   have a3 : s1.num = s.num := by rw [hs1]; rfl
   have a4 : s1.low = s.low := by rw [hs1]; rfl
   have a5 : s1.count = s.count := by rw [hs1]; rfl
   have a6 : s1.opn = (s.stack.drop s0.stack.length).foldl (fun o x => o.set x.toNat false) s.opn := by rw [hs1]; rfl
   have a7 : s1.out.flatten = s.out.flatten ++ sortA (v :: ext) := by rw [a2]; exact hfl
   have a8 : ∀ x, x ∈ s1.stack ++ s1.out.flatten ↔ x ∈ s.stack ++ s.out.flatten := fun x => by rw [a1, a7]; exact hperm.mem_iff
   have a9 : ∀ x, x ∈ s1.out.flatten ↔ x ∈ v :: ext ∨ x ∈ s.out.flatten := fun x => by rw [a7, List.mem_append, mem_sortA]; exact or_comm
   rw [← hs1]
   refine ⟨s1, [], more ++ [sortA (v :: ext)], rfl, ⟨⟨by rw [a3]; exact hti.ln, by rw [a4]; exact hti.ll, by rw [a6, hof.1]; exact hti.lo, ?_, fun x hx => hti.rng x ((a8 x).1 hx), ?_, fun x x0 x1 => by rw [a3, hti.met x x0 x1, a8], fun x x0 x1 => ?_, ?_, fun x hx => ?_, fun y hy => ?_, fun x hx hg y hy => ?_, fun c hc => ?_, fun x hx y hr => ?_⟩, by rw [a1]; simp, by rw [a2, hL.ot]; simp, by rw [a3]; exact hL.num, by rw [a4]; exact hL.low, (a8 v).2 (List.mem_append_left _ hvst), .inr (by rw [a4]; omega), by simp⟩⟩
   ·rw [a1, a7, hperm.nodup_iff]; exact hti.nd
   ·rw [a5, hti.cnt, a1, a7, hperm.length_eq]
   ·rw [a6, hof.2 x x0, hti.op x x0 x1, hdrop, a1, hL.st, List.mem_append]
    exact ⟨fun hh => hh.1.resolve_right hh.2, fun hh => ⟨.inl hh, hdis x hh⟩⟩
   ·have := hti.inc
    rw [hL.st, List.pairwise_append] at this
    rw [a1, a3]; exact this.1
   ·rw [a1] at hx
    rw [a3, a5]; exact hti.up x (hs0 x hx)
   ·rw [a1] at hy
    obtain ⟨x, hx, hxs, hle, hr⟩ := hti.back y (hs0 y hy)
    rcases hx with hx | hx
    ·exact ⟨x, hx, by rw [a1]; exact hGs x hx, by rw [a3]; exact hle, hr⟩
    ·rw [hx, hL.nv] at hle
     have := hnum0 y hy
     omega
   ·rw [a1] at hx
    refine (a8 y).2 (hti.bw x (hs0 x hx) (fun hh => ?_) y hy)
    rcases hh with hh | hh
    ·exact hg hh
    ·rw [hh] at hx; exact hvs hx
   ·rw [a2] at hc
    rcases List.mem_append.1 hc with hc | hc
    ·exact hti.cls c hc
    ·rw [List.mem_singleton] at hc; rw [hc]; exact hcls
   ·exact (a9 y).2 (hclosed x y ((a9 x).1 hx) hr)
theorem visitAll_spec {n : Nat} (hn : n ≤ 1000) {rows : List (List Int)} {R : Int → Int → Prop} (hT : Tells n rows R) : ∀ (k : Nat) (s : TS), k ≤ n → TI n R (fun _ => False) s → (∀ x : Int, 0 ≤ x → x < ((n - k : Nat) : Int) → rd s.num x ≠ 0) →
  ∃ s', visitAll rows n k s = some s' ∧ TI n R (fun _ => False) s' ∧ ∀ x : Int, 0 ≤ x → x < n → rd s'.num x ≠ 0
 | 0, s, _, h, hm => ⟨s, rfl, h, fun x x0 x1 => hm x x0 (by simpa using x1)⟩
 | k + 1, s, hk, h, hm => by
  have hs : s.stack = [] := List.eq_nil_iff_forall_not_mem.2 fun y hy => by
   obtain ⟨x, hx, _⟩ := h.back y hy
   exact hx
  obtain ⟨v, hv⟩ : ∃ v : Int, v = ((n - (k + 1) : Nat) : Int) := ⟨_, rfl⟩
  have v0 : 0 ≤ v := by omega
  have v1 : v < n := by omega
  have hnext : ∀ x : Int, 0 ≤ x → x < ((n - k : Nat) : Int) → x = v ∨ x < ((n - (k + 1) : Nat) : Int) := fun x _ hx => by omega
  unfold visitAll
  rw [← hv]
  by_cases hz : rd s.num v = 0
  ·rw [if_pos hz]
   have hc := h.cnt
   obtain ⟨s', ext, more, e, hp⟩ := visit_spec hn hT (n + 1) v s _ h v0 v1 hz (fun x hx => hx.elim) (fun x hx => hx.elim) (by omega)
   rw [e]
   refine visitAll_spec hn hT k s' (by omega) hp.ti (fun x x0 hx => ?_)
   rcases hnext x x0 hx with hx | hx
   ·subst hx; exact (hp.ti.met x v0 v1).2 hp.vm
   ·rw [hp.num x ((h.met x x0 (by omega)).1 (hm x x0 hx))]; exact hm x x0 hx
  ·rw [if_neg hz]
   refine visitAll_spec hn hT k s (by omega) h (fun x x0 hx => ?_)
   rcases hnext x x0 hx with hx | hx
   ·subst hx; exact hz
   ·exact hm x x0 hx
theorem rd_rep {n : Nat} (x : Int) : rd (List.replicate n 0) x = 0 := by
 unfold rd
 rw [List.getD_eq_getElem?_getD, List.getElem?_replicate]
 split <;> rfl
theorem opn_rep {n : Nat} (x : Int) : opnAt (List.replicate n false) x = false := by
 unfold opnAt
 rw [List.getD_eq_getElem?_getD, List.getElem?_replicate]
 split <;> rfl
structure CompS (n : Nat) (R : Int → Int → Prop) (C : List (List Int)) : Prop where
 cls : ∀ c ∈ C, Cls R c
 rng : ∀ c ∈ C, ∀ x ∈ c, 0 ≤ x ∧ x < (n : Int)
 all : ∀ x : Int, 0 ≤ x → x < n → ∃ c ∈ C, x ∈ c
 srt : C.Pairwise fun a b => rd a 0 < rd b 0
theorem rd_zero_mem {c : List Int} (h : c ≠ []) : rd c 0 ∈ c := by
 cases c with
 | nil => exact absurd rfl h
 | cons a c => show a ∈ a :: c; simp
theorem Cls.same {R : Int → Int → Prop} {c d : List Int} (hc : Cls R c) (hd : Cls R d) {x : Int} (h1 : x ∈ c) (h2 : x ∈ d) : c = d :=
 strict_ext hc.srt hd.srt fun y => by rw [hc.all x h1 y, hd.all x h2 y]
theorem compsOf_spec {n : Nat} (hn : n ≤ 1000) {rows : List (List Int)} {R : Int → Int → Prop} (hT : Tells n rows R) : ∃ C, compsOf rows n = some C ∧ CompS n R C := by
 have h0 : TI n R (fun _ => False) (Tj.start n) := by
  have e : (Tj.start n).stack ++ (Tj.start n).out.flatten = [] := rfl
  refine ⟨by simp [Tj.start], by simp [Tj.start], by simp [Tj.start], by simp [Tj.start], by rw [e]; simp, by rw [e]; rfl, fun x _ _ => ?_, fun x _ _ => ?_, by simp [Tj.start], by simp [Tj.start], by simp [Tj.start], by simp [Tj.start], by simp [Tj.start], by simp [Tj.start]⟩
  ·rw [e]; show rd (List.replicate n 0) x ≠ 0 ↔ _
   rw [rd_rep]; simp
  ·show opnAt (List.replicate n false) x = true ↔ x ∈ []
   rw [opn_rep]; simp
 obtain ⟨s, e, h, hm⟩ := visitAll_spec hn hT n (Tj.start n) (Nat.le_refl _) h0 (fun x x0 x1 => by omega)
 have hs : s.stack = [] := List.eq_nil_iff_forall_not_mem.2 fun y hy => by
  obtain ⟨x, hx, _⟩ := h.back y hy
  exact hx
 have hrng : ∀ c ∈ s.out, ∀ x ∈ c, 0 ≤ x ∧ x < (n : Int) := fun c hc x hx => h.rng x (List.mem_append_right _ (List.mem_flatten.2 ⟨c, hc, hx⟩))
 have hall : ∀ x : Int, 0 ≤ x → x < n → ∃ c ∈ s.out, x ∈ c := fun x x0 x1 => by
  have := (h.met x x0 x1).1 (hm x x0 x1)
  rw [hs, List.nil_append] at this
  exact List.mem_flatten.1 this
 have hfd : s.out.flatten.Nodup := by have := h.nd; rw [hs, List.nil_append] at this; exact this
 have hfirst : (s.out.map (rd · 0)).Nodup := by
  rw [List.nodup_iff_pairwise_ne, List.pairwise_map]
  have := (List.pairwise_flatten.1 hfd).2
  refine this.imp_of_mem fun {a b} ha hb hd e => ?_
  have h1 := rd_zero_mem (h.cls a ha).ne
  have h2 := rd_zero_mem (h.cls b hb).ne
  rw [e] at h1
  exact hd _ h1 _ h2 rfl
 have hlen := out_len h
 have hfine : fine s.out = true := by
  unfold fine
  rw [Bool.and_eq_true, Bool.and_eq_true, List.all_eq_true]
  refine ⟨⟨fun c hc => ?_, by simpa using hfirst⟩, by simp; omega⟩
  have h1 := (h.cls c hc).ne
  have h2 := hrng c hc _ (rd_zero_mem h1)
  simp only [Bool.and_eq_true, decide_eq_true_eq]
  refine ⟨⟨by simpa using h1, h2.1⟩, by omega⟩
 refine ⟨s.out.mergeSort byFirst, by unfold compsOf; rw [e]; dsimp only; rw [if_pos hfine], ⟨fun c hc => h.cls c (List.mem_mergeSort.1 hc), fun c hc => hrng c (List.mem_mergeSort.1 hc), fun x x0 x1 => ?_, ?_⟩⟩
 ·obtain ⟨c, hc, hx⟩ := hall x x0 x1
  exact ⟨c, List.mem_mergeSort.2 hc, hx⟩
 ·have h1 := List.pairwise_mergeSort (le := byFirst) (fun a b c h1 h2 => by unfold byFirst at *; simp at *; omega) (fun a b => by unfold byFirst; simp; omega) s.out
  have h2 : ((s.out.mergeSort byFirst).map (rd · 0)).Nodup := ((List.mergeSort_perm s.out byFirst).map _).nodup_iff.2 hfirst
  rw [List.nodup_iff_pairwise_ne, List.pairwise_map] at h2
  exact h1.imp₂ (fun a b hab hne => by unfold byFirst at hab; simp at hab; omega) h2
theorem CompS.one {n : Nat} {R : Int → Int → Prop} {C D : List (List Int)} (hC : CompS n R C) (hD : CompS n R D) : C = D := by
 have key : ∀ {A B : List (List Int)}, CompS n R A → CompS n R B → ∀ c ∈ A, c ∈ B := fun {A B} hA hB c hc => by
  have hm := rd_zero_mem (hA.cls c hc).ne
  obtain ⟨x0, x1⟩ := hA.rng c hc _ hm
  obtain ⟨d, hd, hx⟩ := hB.all _ x0 x1
  rw [(hA.cls c hc).same (hB.cls d hd) hm hx]; exact hd
 have nd : ∀ {A : List (List Int)}, CompS n R A → A.Nodup := fun {A} hA => by
  rw [List.nodup_iff_pairwise_ne]
  exact hA.srt.imp fun {a b} h e => by rw [e] at h; omega
 have hp : C.Perm D := (List.perm_ext_iff_of_nodup (nd hC) (nd hD)).2 fun c => ⟨key hC hD c, key hD hC c⟩
 exact List.Perm.eq_of_pairwise (le := fun a b : List Int => rd a 0 < rd b 0) (fun a b _ _ h1 h2 => by omega) hC.srt hD.srt hp
end Go.Proofs.Ytlldjinejckbaaa.Pt

end
section
namespace Go.Proofs.Ytlldjinejckbaaa.Pq
open Go Go.RowKit Go.Proofs.YtlldjinejckbaaaW.PrintWords Go.Proofs.Ytlldjinejckbaaa.Mod Go.Proofs.Ytlldjinejckbaaa.PD Go.Proofs.Ytlldjinejckbaaa.Pg Go.Proofs.Ytlldjinejckbaaa.Pb Go.Proofs.Ytlldjinejckbaaa.Po Go.Proofs.Ytlldjinejckbaaa.Pc Go.Proofs.Ytlldjinejckbaaa.Pt
theorem comps_spec {n : Nat} (hn : n ≤ 1000) {l : List S55} (hl : Ok n l) : ∃ C, Tj.compsOf (nx n l) n = some C ∧ CompS n (E l) C := compsOf_spec hn (tells_nx hl)
end Go.Proofs.Ytlldjinejckbaaa.Pq

end
section
namespace Go.Proofs.Ytlldjinejckbaaa.PD
open Go.RowKit Go.Proofs.YtlldjinejckbaaaW.PrintWords Go.Proofs.YtlldjinejckbaaaW.PrintLast Go.Proofs.YtlldjinejckbaaaW.PrintMore
attribute [local go_sem] max2_int min2_int max_two min_two max_three min_three max_four min_four
set_option linter.unusedVariables false
set_option linter.unusedSimpArgs false
end Go.Proofs.Ytlldjinejckbaaa.PD

end
section
namespace Go.Proofs.Ytlldjinejckbaaa.PD
open Go Go.RowKit Go.Proofs.YtlldjinejckbaaaW.PrintWords Go.Proofs.YtlldjinejckbaaaW.PrintLast Go.Proofs.YtlldjinejckbaaaW.PrintMore
open Go.Proofs.Ytlldjinejckbaaa.Pg Go.Proofs.Ytlldjinejckbaaa.Pb Go.Proofs.Ytlldjinejckbaaa.Pt Go.Proofs.Ytlldjinejckbaaa.Pq
theorem order_atS {n : Nat} (hn : n ≤ 12) {l : List S55} (hl : Ok n l) (hlen : l.length ≤ 1000) : wireloomlaw05_order.f n l = Od.orderOf n l := by
 unfold wireloomlaw05_order.f digraph_Order.f
 rw [if_pos (ok_condW hn hl hlen), Int.toNat_natCast]
 cases Od.orderOf n l <;> rfl
theorem check_atS {n : Nat} (hn : n ≤ 12) {l : List S55} (hl : Ok n l) (hlen : l.length ≤ 1000) {s : List Int} (hs : s.length ≤ 1000) : digraph_Check.f n l s = some (Ck.checkOf n l s) := by
 unfold digraph_Check.f
 rw [if_pos ⟨ok_condW hn hl hlen, by omega⟩, Int.toNat_natCast]
theorem comps_atS {n : Nat} (hn : n ≤ 12) {l : List S55} (hl : Ok n l) (hlen : l.length ≤ 1000) : digraph_Components.f n l = Tj.compsOf (nx n l) n := by
 unfold digraph_Components.f
 rw [if_pos (ok_condW hn hl hlen), Int.toNat_natCast]
theorem same_goS {a : List Int} (hlen : a.length ≤ 1000) : ∀ (d i : Nat), i + d = a.length → Ev (fun k => wireloomref05_Same.l0 k a a i) true := by
 intro d
 induction d with
 | zero =>
  intro i hi
  refine Ev.step (f := fun _ => some true) (fun k => ?_) (Ev.now _)
  simp only [wireloomref05_Same.l0]
  rw [if_neg (by omega)]
 | succ d ih =>
  intro i hi
  refine Ev.step (fun k => ?_) (ih (i + 1) (by omega))
  simp only [wireloomref05_Same.l0]
  rw [if_pos (by omega), if_pos (by omega), if_pos (by omega), if_pos trivial, wrap_nextW (by omega)]
theorem same_evS {a : List Int} (hlen : a.length ≤ 1000) : Ev (fun k => wireloomref05_Same.f k a a) true :=
 Ev.congr (fun k => by unfold wireloomref05_Same.f; rw [if_pos rfl]; rfl) (same_goS hlen a.length 0 (by omega))
theorem alike_evS {a : List Int} (hlen : a.length ≤ 1000) (e : Int) : Ev (fun k => wireloomref05_Alike.f k a e a e) true :=
 Ev.congr (fun k => by unfold wireloomref05_Alike.f; rw [if_pos rfl]) (Ev.bind (f := fun _ t => some t) (same_evS hlen) (Ev.now true))
theorem rdL_getS {a : List (List Int)} {i : Nat} (h : i < a.length) : rd_L2 a (i : Int) = a[i] := by
 unfold rd_L2
 rw [List.getD_eq_getElem?_getD, Int.toNat_natCast, List.getElem?_eq_getElem h]
 rfl
theorem samelists_goS {a : List (List Int)} (hlen : a.length ≤ 1000) (hc : ∀ c ∈ a, c.length ≤ 1000) : ∀ (d i : Nat), i + d = a.length → Ev (fun k => wireloomref05_SameLists.l0 k a a i) true := by
 intro d
 induction d with
 | zero =>
  intro i hi
  refine Ev.step (f := fun _ => some true) (fun k => ?_) (Ev.now _)
  simp only [wireloomref05_SameLists.l0]
  rw [if_neg (by omega)]
 | succ d ih =>
  intro i hi
  have hil : i < a.length := by omega
  refine Ev.step (f := fun k => (wireloomref05_Same.f k (rd_L2 a i) (rd_L2 a i)).bind fun t => if t = true then wireloomref05_SameLists.l0 k a a ((i + 1 : Nat) : Int) else some false) (fun k => ?_) (Ev.bind (same_evS (by rw [rdL_getS hil]; exact hc _ (List.getElem_mem hil))) (Ev.congr (fun k => if_pos rfl) (ih (i + 1) (by omega))))
  simp only [wireloomref05_SameLists.l0]
  rw [if_pos (by omega), if_pos (by omega), if_pos (by omega), wrap_nextW (by omega)]
theorem samelists_evS {a : List (List Int)} (hlen : a.length ≤ 1000) (hc : ∀ c ∈ a, c.length ≤ 1000) : Ev (fun k => wireloomref05_SameLists.f k a a) true :=
 Ev.congr (fun k => by unfold wireloomref05_SameLists.f; rw [if_pos rfl]; rfl) (samelists_goS hlen hc a.length 0 (by omega))
theorem comp_lens {n : Nat} {R : Int → Int → Prop} {C : List (List Int)} (h : CompS n R C) : C.length ≤ n ∧ ∀ c ∈ C, c.length ≤ n := by
 refine ⟨?_, fun c hc => nodup_len ((h.cls c hc).srt.imp (fun h => by omega)) (h.rng c hc)⟩
 have := nodup_len (n := n) (a := C.map (rd · 0)) (by
  rw [List.nodup_iff_pairwise_ne, List.pairwise_map]
  exact h.srt.imp (fun h => by omega)) (fun x hx => by
  obtain ⟨c, hc, rfl⟩ := List.mem_map.1 hx
  exact h.rng c hc _ (rd_zero_mem (h.cls c hc).ne))
 simpa using this
end Go.Proofs.Ytlldjinejckbaaa.PD

end
section
namespace Go.Proofs.Ytlldjinejckbaaa.PD
open Go Go.RowKit Go.Proofs.YtlldjinejckbaaaW.PrintWords Go.Proofs.YtlldjinejckbaaaW.PrintLast Go.Proofs.YtlldjinejckbaaaW.PrintMore
open Go.Proofs.Ytlldjinejckbaaa.Pg Go.Proofs.Ytlldjinejckbaaa.Pb Go.Proofs.Ytlldjinejckbaaa.Po Go.Proofs.Ytlldjinejckbaaa.Pd
theorem valid_goM {N : Int} {l : List S55} (hlen : l.length ≤ 1000) : ∀ (d i : Nat), i + d = l.length → ∃ r, Ev (fun k => digraph_Valid.l0 k N l l.length i) r ∧ Ev (fun k => wireloomref05_Valid.l0 k N l i) r ∧ ((∀ e ∈ l.drop i, 0 ≤ e.f0 ∧ e.f0 < N ∧ 0 ≤ e.f1 ∧ e.f1 < N) → r = true) := by
 intro d
 induction d with
 | zero =>
  intro i hi
  refine ⟨true, Ev.step (f := fun _ => some true) (fun k => ?_) (Ev.now _), Ev.step (f := fun _ => some true) (fun k => ?_) (Ev.now _), fun _ => rfl⟩
  ·simp only [digraph_Valid.l0]; rw [if_neg (by omega)]
  ·simp only [wireloomref05_Valid.l0]; rw [if_neg (by omega)]
 | succ d ih =>
  intro i hi
  have hil : i < l.length := by omega
  obtain ⟨r, h1, h2, h3⟩ := ih (i + 1) (by omega)
  have hd : l.drop i = l[i] :: l.drop (i + 1) := List.drop_eq_getElem_cons hil
  by_cases hc : 0 ≤ l[i].f0 ∧ l[i].f0 < N ∧ 0 ≤ l[i].f1 ∧ l[i].f1 < N
  ·refine ⟨r, Ev.step (fun k => ?_) h1, Ev.step (fun k => ?_) h2, fun h => h3 (fun e he => h e (by rw [hd]; exact List.mem_cons_of_mem _ he))⟩
   ·simp only [digraph_Valid.l0]
    have hm : ¬ mn l[i].f0 l[i].f1 < 0 ∧ ¬ mx l[i].f0 l[i].f1 ≥ N := by unfold mn mx; split <;> (try split) <;> omega
    rw [if_pos (by omega), if_pos (by omega), if_pos (by omega), rdT_getW hil, if_neg hm.1, if_neg hm.2, wrap_nextW (by omega)]
   ·simp only [wireloomref05_Valid.l0]
    rw [if_pos (by omega), if_pos (by omega), rdT_getW hil, if_neg (by omega), if_neg (by omega), if_neg (by omega), if_neg (by omega), wrap_nextW (by omega)]
  ·refine ⟨false, Ev.step (f := fun _ => some false) (fun k => ?_) (Ev.now _), Ev.step (f := fun _ => some false) (fun k => ?_) (Ev.now _), fun h => absurd (h l[i] (by rw [hd]; exact List.mem_cons_self)) hc⟩
   ·simp only [digraph_Valid.l0]
    rw [if_pos (by omega), if_pos (by omega), if_pos (by omega), rdT_getW hil]
    by_cases hm : mn l[i].f0 l[i].f1 < 0
    ·rw [if_pos hm]
    ·have hm2 : mx l[i].f0 l[i].f1 ≥ N := by unfold mn at hm; unfold mx; split at hm <;> split <;> omega
     rw [if_neg hm, if_pos hm2]
   ·simp only [wireloomref05_Valid.l0]
    rw [if_pos (by omega), if_pos (by omega), rdT_getW hil]
    by_cases c1 : l[i].f0 < 0
    ·rw [if_pos c1]
    ·rw [if_neg c1]
     by_cases c2 : l[i].f0 ≥ N
     ·rw [if_pos c2]
     ·rw [if_neg c2]
      by_cases c3 : l[i].f1 < 0
      ·rw [if_pos c3]
      ·rw [if_neg c3, if_pos (by omega)]
theorem valid_evM (N : Int) {l : List S55} (hlen : l.length ≤ 1000) : ∃ r, Ev (fun k => digraph_Valid.f k N l) r ∧ Ev (fun k => wireloomref05_Valid.f k N l) r ∧ (0 ≤ N → N ≤ 200 → (∀ e ∈ l, 0 ≤ e.f0 ∧ e.f0 < N ∧ 0 ≤ e.f1 ∧ e.f1 < N) → r = true) := by
 obtain ⟨r, h1, h2, h3⟩ := valid_goM (N := N) hlen l.length 0 (by omega)
 have hd : ¬ (l.length : Int) > 2000 := by omega
 have a1 : Ev (fun k => digraph_Valid.j0 k N l true) false := Ev.step (f := fun _ => some false) (fun k => by simp only [digraph_Valid.j0]; rw [if_pos trivial]) (Ev.now _)
 have b1 : Ev (fun k => wireloomref05_Valid.j0 k N l true) false := Ev.step (f := fun _ => some false) (fun k => by simp only [wireloomref05_Valid.j0]; rw [if_pos trivial]) (Ev.now _)
 have a2 : Ev (fun k => digraph_Valid.j0 k N l false) r := Ev.step (fun k => by simp only [digraph_Valid.j0]; rw [if_neg (by decide)]; rfl) h1
 have b2 : Ev (fun k => wireloomref05_Valid.j0 k N l false) r := Ev.step (fun k => by simp only [wireloomref05_Valid.j0]; rw [if_neg (by decide)]; rfl) h2
 unfold digraph_Valid.f wireloomref05_Valid.f
 rw [decide_eq_false hd]
 by_cases c1 : N < 0
 ·exact ⟨false, by simp only [if_pos c1]; exact a1, by simp only [if_pos c1]; exact b1, fun h => by omega⟩
 ·by_cases c2 : N > 200
  ·exact ⟨false, by simp only [if_neg c1, if_pos c2]; exact a1, by simp only [if_neg c1, if_pos c2]; exact b1, fun _ h => by omega⟩
  ·exact ⟨r, by simp only [if_neg c1, if_neg c2]; exact a2, by simp only [if_neg c1, if_neg c2]; exact b2, fun _ _ h => h3 (fun e he => h e (by simpa using he))⟩
structure Mk (n : Nat) (P : Int → Prop) (M : List Bool) : Prop where
 len : M.length = n
 at_ : ∀ x : Int, 0 ≤ x → x < n → (rdOf false M x = true ↔ P x)
theorem rdB_same (M : List Bool) (y : Int) (b : Bool) (h0 : 0 ≤ y) (h1 : y < M.length) : rdOf false (M.set y.toNat b) y = b := by
 unfold rdOf
 rw [List.getD_eq_getElem?_getD, List.getElem?_set_self (by omega)]
 rfl
theorem rdB_other (M : List Bool) (x y : Int) (b : Bool) (hx : 0 ≤ x) (hy : 0 ≤ y) (h : x ≠ y) : rdOf false (M.set y.toNat b) x = rdOf false M x := by
 unfold rdOf
 rw [List.getD_eq_getElem?_getD, List.getD_eq_getElem?_getD, List.getElem?_set_ne (by omega)]
theorem Mk.set {n : Nat} {P Q : Int → Prop} {M : List Bool} (h : Mk n P M) {y : Int} (y0 : 0 ≤ y) (y1 : y < n) (hQ : ∀ x, Q x ↔ P x ∨ x = y) : Mk n Q (M.set y.toNat true) := by
 have hl := h.len
 refine ⟨by rw [List.length_set]; exact hl, fun x x0 x1 => ?_⟩
 by_cases e : x = y
 ·subst e; rw [rdB_same _ _ _ x0 (by omega), hQ]; simp
 ·rw [rdB_other _ _ _ _ x0 y0 e, h.at_ x x0 x1, hQ]; simp [e]
theorem Mk.none (n : Nat) : Mk n (fun _ => False) (List.replicate n false) := ⟨by simp, fun x _ _ => by
 unfold rdOf
 rw [List.getD_eq_getElem?_getD, List.getElem?_replicate]
 split <;> simp⟩
theorem free_goM {n : Nat} {l : List S55} (hl : Ok n l) (hlen : l.length ≤ 1000) {out : List Int} {M : List Bool} (hM : Mk n (· ∈ out) M) (v : Int) : ∀ (d i : Nat), i + d = l.length → ∀ r : Bool, (r = true ↔ ∀ e ∈ l.drop i, e.f1 = v → e.f0 ∈ out) → Ev (fun k => wireloomref05_free.l0 k l M v i) r := by
 have hml := hM.len
 intro d
 induction d with
 | zero =>
  intro i hi r hr
  obtain rfl : i = l.length := by omega
  have : r = true := hr.2 (by simp)
  subst this
  refine Ev.step (f := fun _ => some true) (fun k => ?_) (Ev.now _)
  simp only [wireloomref05_free.l0]
  rw [if_neg (by omega)]
 | succ d ih =>
  intro i hi r hr
  have hil : i < l.length := by omega
  have hd : l.drop i = l[i] :: l.drop (i + 1) := List.drop_eq_getElem_cons hil
  obtain ⟨a0, a1, b0, b1⟩ := hl l[i] (List.getElem_mem hil)
  have hm := hM.at_ l[i].f0 a0 a1
  rw [hd] at hr
  by_cases hc : l[i].f1 = v ∧ l[i].f0 ∉ out
  ·have : r = false := by
    cases r with
    | false => rfl
    | true => exact absurd (hr.1 rfl l[i] List.mem_cons_self hc.1) hc.2
   subst this
   refine Ev.step (f := fun _ => some false) (fun k => ?_) (Ev.now _)
   simp only [wireloomref05_free.l0]
   rw [if_pos (by omega), if_pos (by omega), rdT_getW hil, if_pos hc.1, if_pos a0, if_pos (by omega), if_neg (fun h => hc.2 (hm.1 h))]
  ·refine Ev.step (fun k => ?_) (ih (i + 1) (by omega) r (by
    rw [hr]
    constructor
    ·intro h e he; exact h e (List.mem_cons_of_mem _ he)
    ·intro h e he hev
     rcases List.mem_cons.1 he with he | he
     ·subst he; exact Classical.byContradiction fun hn => hc ⟨hev, hn⟩
     ·exact h e he hev))
   simp only [wireloomref05_free.l0]
   rw [if_pos (by omega), if_pos (by omega), rdT_getW hil, wrap_nextW (by omega)]
   by_cases h1 : l[i].f1 = v
   ·have h2 : l[i].f0 ∈ out := Classical.byContradiction fun hn => hc ⟨h1, hn⟩
    rw [if_pos h1, if_pos a0, if_pos (by omega), if_pos (hm.2 h2)]
   ·rw [if_neg h1]
theorem free_evM {n : Nat} {l : List S55} (hl : Ok n l) (hlen : l.length ≤ 1000) {out : List Int} {M : List Bool} (hM : Mk n (· ∈ out) M) (v : Int) {r : Bool} (hr : r = true ↔ ∀ u, E l u v → u ∈ out) : Ev (fun k => wireloomref05_free.f k l M v) r := by
 refine free_goM hl hlen hM v l.length 0 (by omega) r ?_
 rw [hr, List.drop_zero]
 exact ⟨fun h e he hv => h _ ⟨e, he, rfl, hv⟩, fun h u ⟨e, he, h0, h1⟩ => h0 ▸ h e he h1⟩
theorem ordIn_j2M {n : Nat} (hn : n ≤ 12) {l : List S55} {out : List Int} {M : List Bool} (hM : Mk n (· ∈ out) M) (hol : out.length ≤ n) {v : Int} (v0 : 0 ≤ v) (v1 : v < n) {R : List Int × Int} (h : Ev (fun k => wireloomref05_OrderIn.l0 k n l (M.set v.toNat true) (out ++ [v])) R) (i : Int) : Ev (fun k => wireloomref05_OrderIn.j2 k n l M out v i false) R := by
 have hml := hM.len
 refine Ev.step (fun k => ?_) h
 simp only [wireloomref05_OrderIn.j2]
 rw [if_neg (by decide), if_neg (by omega), if_pos v0, if_pos (by omega), if_pos (by omega)]
theorem ordIn_found {n : Nat} (hn : n ≤ 12) {l : List S55} {out : List Int} {M : List Bool} (hM : Mk n (· ∈ out) M) (hol : out.length ≤ n) {v : Int} (v0 : 0 ≤ v) (v1 : v < n) {R : List Int × Int} (h : Ev (fun k => wireloomref05_OrderIn.l0 k n l (M.set v.toNat true) (out ++ [v])) R) (i : Int) : Ev (fun k => wireloomref05_OrderIn.l1 k n l M out v i) R := by
 refine Ev.step (f := fun k => wireloomref05_OrderIn.j2 k n l M out v i false) (fun k => ?_) (ordIn_j2M hn hM hol v0 v1 h i)
 simp only [wireloomref05_OrderIn.l1]
 rw [decide_eq_false (by omega), ite_self]
theorem ordIn_l1M {n : Nat} (hn : n ≤ 12) {l : List S55} (hl : Ok n l) (hlen : l.length ≤ 1000) {out : List Int} {M : List Bool} (hM : Mk n (· ∈ out) M) (hol : out.length ≤ n) {R : List Int × Int}
  (h : (∃ v, Avail n l out v ∧ (∀ u, Avail n l out u → v ≤ u) ∧ Ev (fun k => wireloomref05_OrderIn.l0 k n l (M.set v.toNat true) (out ++ [v])) R) ∨ ((∀ v, ¬ Avail n l out v) ∧ R = ([], 50))) :
  ∀ (d i : Nat), i + d = n → (∀ u : Int, Avail n l out u → (i : Int) ≤ u) → Ev (fun k => wireloomref05_OrderIn.l1 k n l M out (-1) i) R := by
 have hml := hM.len
 intro d
 induction d with
 | zero =>
  intro i hi hlow
  rcases h with ⟨v, hv, _, _⟩ | ⟨_, rfl⟩
  ·have h1 := hlow v hv; have h2 := hv.2.1; omega
  ·have hj : Ev (fun k => wireloomref05_OrderIn.j2 k n l M out (-1) i false) (([] : List Int), (50 : Int)) := Ev.step (f := fun _ => some (([] : List Int), (50 : Int))) (fun k => by simp only [wireloomref05_OrderIn.j2]; rw [if_neg (by decide), if_pos (by omega)]) (Ev.now _)
   refine Ev.step (fun k => ?_) hj
   simp only [wireloomref05_OrderIn.l1]
   rw [if_neg (by omega)]
 | succ d ih =>
  intro i hi hlow
  have hin : i < n := by omega
  have hm := hM.at_ (i : Int) (by omega) (by omega)
  have hj : Ev (fun k => wireloomref05_OrderIn.j2 k n l M out (-1) i true) R := by
   by_cases hio : (i : Int) ∈ out
   ·refine Ev.step (fun k => ?_) (ih (i + 1) (by omega) (fun u hu => by
     have := hlow u hu
     have hne : u ≠ (i : Int) := fun e => hu.2.2.1 (e ▸ hio)
     omega))
    simp only [wireloomref05_OrderIn.j2]
    rw [if_pos trivial, if_pos (by omega), if_pos (by omega), if_pos (hm.2 hio), wrap_nextW (by omega)]
   ·by_cases hfr : ∀ u, E l u i → u ∈ out
    ·have hav : Avail n l out i := ⟨by omega, by omega, hio, hfr⟩
     rcases h with ⟨v, hv, hvm, hev⟩ | ⟨hno, _⟩
     ·have hvi : v = (i : Int) := by have := hvm _ hav; have := hlow v hv; omega
      subst hvi
      refine Ev.step (f := fun k => (wireloomref05_free.f k l M i).bind fun t => if t = true then wireloomref05_OrderIn.l1 k n l M out i ((i + 1 : Nat) : Int) else wireloomref05_OrderIn.l1 k n l M out (-1) ((i + 1 : Nat) : Int)) (fun k => ?_) (Ev.bind (free_evM hl hlen hM i (r := true) ⟨fun _ => hfr, fun _ => rfl⟩) (Ev.congr (fun k => if_pos rfl) (ordIn_found hn hM hol (by omega) (by omega) hev _)))
      simp only [wireloomref05_OrderIn.j2]
      rw [if_pos trivial, if_pos (by omega), if_pos (by omega), if_neg (fun h => hio (hm.1 h)), wrap_nextW (by omega)]
     ·exact absurd hav (hno _)
    ·refine Ev.step (f := fun k => (wireloomref05_free.f k l M i).bind fun t => if t = true then wireloomref05_OrderIn.l1 k n l M out i ((i + 1 : Nat) : Int) else wireloomref05_OrderIn.l1 k n l M out (-1) ((i + 1 : Nat) : Int)) (fun k => ?_) (Ev.bind (free_evM hl hlen hM i (r := false) ⟨fun h => (by cases h), fun h => absurd h hfr⟩) (Ev.congr (fun k => if_neg (by decide)) (ih (i + 1) (by omega) (fun u hu => by
      have := hlow u hu
      have hne : u ≠ (i : Int) := fun e => hfr (e ▸ hu.2.2.2)
      omega))))
     simp only [wireloomref05_OrderIn.j2]
     rw [if_pos trivial, if_pos (by omega), if_pos (by omega), if_neg (fun h => hio (hm.1 h)), wrap_nextW (by omega)]
  refine Ev.step (fun k => ?_) hj
  simp only [wireloomref05_OrderIn.l1]
  rw [if_pos (by omega), decide_eq_true (by omega)]
theorem ordIn_l0M {n : Nat} (hn : n ≤ 12) {l : List S55} (hl : Ok n l) (hlen : l.length ≤ 1000) {o : List Int} (hg : Greedy n l o) (hav : ∀ v, ¬ Avail n l o v) : ∀ (d m : Nat) (M : List Bool), m + d = o.length → Mk n (· ∈ o.take m) M → Ev (fun k => wireloomref05_OrderIn.l0 k n l M (o.take m)) (if o.length < n then ([], 50) else (o, 0)) := by
 have hol := hg.len
 intro d
 induction d with
 | zero =>
  intro m M hm hM
  obtain rfl : m = o.length := by omega
  rw [List.take_length] at hM ⊢
  by_cases hc : o.length < n
  ·rw [if_pos hc]
   refine Ev.step (fun k => ?_) (ordIn_l1M hn hl hlen hM hol (.inr ⟨hav, rfl⟩) n 0 (by omega) (fun u hu => hu.1))
   simp only [wireloomref05_OrderIn.l0]
   rw [if_pos (by omega)]
   rfl
  ·rw [if_neg hc]
   refine Ev.step (f := fun _ => some (o, 0)) (fun k => ?_) (Ev.now _)
   simp only [wireloomref05_OrderIn.l0]
   rw [if_neg (by omega)]
 | succ d ih =>
  intro m M hm hM
  have hmo : m < o.length := by omega
  obtain ⟨ha, hmin⟩ := hg m hmo
  have e : o.take (m + 1) = o.take m ++ [rd o (m : Int)] := by rw [rd_get hmo, List.take_succ_eq_append_getElem hmo]
  have hM' : Mk n (· ∈ o.take (m + 1)) (M.set (rd o (m : Int)).toNat true) := hM.set ha.1 ha.2.1 (fun x => by rw [e, List.mem_append, List.mem_singleton])
  have hnext := ih (m + 1) _ (by omega) hM'
  rw [e] at hnext
  refine Ev.step (fun k => ?_) (ordIn_l1M hn hl hlen hM (by rw [List.length_take]; omega) (.inl ⟨_, ha, hmin, hnext⟩) n 0 (by omega) (fun u hu => hu.1))
  simp only [wireloomref05_OrderIn.l0]
  rw [if_pos (by rw [List.length_take]; omega)]
  rfl
theorem orderIn_evM {n : Nat} (hn : n ≤ 12) {l : List S55} (hl : Ok n l) (hlen : l.length ≤ 1000) : ∃ o, Od.orderOf n l = some (if o.length < n then ([], 50) else (o, 0)) ∧ Greedy n l o ∧ Ev (fun k => wireloomref05_OrderIn.f k n l) (if o.length < n then ([], 50) else (o, 0)) := by
 obtain ⟨o, h1, hg, hav⟩ := order_spec (n := n) (by omega) hl
 refine ⟨o, h1, hg, ?_⟩
 have h0 : Mk n (· ∈ o.take 0) (List.replicate n false) := by
  have := Mk.none n
  exact ⟨this.len, fun x x0 x1 => by rw [this.at_ x x0 x1]; simp⟩
 refine Ev.congr (fun k => ?_) (ordIn_l0M hn hl hlen hg hav o.length 0 _ (by omega) h0)
 unfold wireloomref05_OrderIn.f
 rw [if_pos (by omega), if_pos (by rw [Int.toNat_natCast]; omega), Int.toNat_natCast]
 rfl
theorem checkIn_l1M {n : Nat} {l : List S55} (hl : Ok n l) (hlen : l.length ≤ 1000) {a : List Int} (ha : a.length = n) : ∀ (d i : Nat), i + d = l.length → Ev (fun k => wireloomref05_Check.l1 k l a i) (if ((l.drop i).any fun e => decide (rd a e.f1 ≤ rd a e.f0)) = true then 6 else 0) := by
 intro d
 induction d with
 | zero =>
  intro i hi
  obtain rfl : i = l.length := by omega
  rw [List.drop_length]
  refine Ev.step (f := fun _ => some 0) (fun k => ?_) (Ev.now _)
  simp only [wireloomref05_Check.l1]
  rw [if_neg (by omega)]
 | succ d ih =>
  intro i hi
  have hil : i < l.length := by omega
  have hd : l.drop i = l[i] :: l.drop (i + 1) := List.drop_eq_getElem_cons hil
  obtain ⟨a0, a1, b0, b1⟩ := hl l[i] (List.getElem_mem hil)
  rw [hd, List.any_cons]
  by_cases hc : rd a l[i].f1 ≤ rd a l[i].f0
  ·rw [decide_eq_true hc, Bool.true_or, if_pos rfl]
   refine Ev.step (f := fun _ => some 6) (fun k => ?_) (Ev.now _)
   simp only [wireloomref05_Check.l1]
   rw [if_pos (by omega), if_pos (by omega), rdT_getW hil, if_pos a0, if_pos (by omega), if_pos b0, if_pos (by omega), if_pos (by omega)]
  ·rw [decide_eq_false hc, Bool.false_or]
   refine Ev.step (fun k => ?_) (ih (i + 1) (by omega))
   simp only [wireloomref05_Check.l1]
   rw [if_pos (by omega), if_pos (by omega), rdT_getW hil, if_pos a0, if_pos (by omega), if_pos b0, if_pos (by omega), if_neg (by omega), wrap_nextW (by omega)]
theorem checkIn_l0M {n : Nat} (hn : n ≤ 12) {l : List S55} (hl : Ok n l) (hlen : l.length ≤ 1000) {s : List Int} (hs : s.length = n) : ∀ (d i : Nat) (a : List Int), i + d = n → a.length = n →
  Ev (fun k => wireloomref05_Check.l0 k n l s a i) (match Ck.checkGo n (s.drop i) i a with | none => 6 | some a' => if (l.any fun e => decide (rd a' e.f1 ≤ rd a' e.f0)) = true then 6 else 0) := by
 intro d
 induction d with
 | zero =>
  intro i a hi ha
  obtain rfl : i = n := by omega
  rw [List.drop_of_length_le (by omega)]
  refine Ev.step (fun k => ?_) (checkIn_l1M hl hlen ha l.length 0 (by omega))
  simp only [wireloomref05_Check.l0]
  rw [if_neg (by omega)]
  rfl
 | succ d ih =>
  intro i a hi ha
  have his : i < s.length := by omega
  have hd : s.drop i = rd s (i : Int) :: s.drop (i + 1) := Mod.drop_rd his
  rw [hd]
  unfold Ck.checkGo
  by_cases hc : rd s (i : Int) < 0 ∨ (n : Int) ≤ rd s (i : Int) ∨ 0 < rd a (rd s (i : Int))
  ·rw [if_pos hc]
   refine Ev.step (f := fun _ => some 6) (fun k => ?_) (Ev.now _)
   simp only [wireloomref05_Check.l0]
   rw [if_pos (by omega), if_pos (by omega), if_pos (by omega)]
   by_cases c1 : rd s (i : Int) < 0
   ·rw [if_pos c1]
   ·rw [if_neg c1]
    by_cases c2 : rd s (i : Int) ≥ (n : Int)
    ·rw [if_pos c2]
    ·rw [if_neg c2, if_pos (by omega), if_pos (by omega), if_pos (by omega)]
  ·rw [if_neg hc]
   have hw : wrap64 ((i : Int) + 1) = ((i + 1 : Nat) : Int) := wrap_nextW (by omega)
   have hx : (i : Int) + 1 = ((i + 1 : Nat) : Int) := by omega
   rw [hx] at hw ⊢
   have hnext := ih (i + 1) (a.set (rd s (i : Int)).toNat (wrap64 ((i + 1 : Nat) : Int))) (by omega) (by rw [List.length_set]; exact ha)
   refine Ev.step (fun k => ?_) hnext
   simp only [wireloomref05_Check.l0]
   rw [if_pos (by omega), if_pos (by omega), if_pos (by omega), if_neg (by omega), if_neg (by omega), if_pos (by omega), if_pos (by omega), if_neg (by omega), hx, hw]
theorem checkIn_evM {n : Nat} (hn : n ≤ 12) {l : List S55} (hl : Ok n l) (hlen : l.length ≤ 1000) (s : List Int) : Ev (fun k => wireloomref05_Check.f k n l s) (Ck.checkOf n l s) := by
 unfold wireloomref05_Check.f Ck.checkOf
 by_cases hs : (s.length : Int) = n
 ·have h := checkIn_l0M hn hl hlen (s := s) (by omega) n 0 (List.replicate n 0) (by omega) (by simp)
  rw [List.drop_zero] at h
  refine Ev.congr (fun k => ?_) ?_ (f := fun k => wireloomref05_Check.l0 k n l s (List.replicate n 0) ((0 : Nat) : Int))
  ·rw [if_pos hs, if_pos (by omega), if_pos (by rw [Int.toNat_natCast]; omega), Int.toNat_natCast]
   rfl
  ·cases hg : Ck.checkGo n s 0 (List.replicate n 0) with
   | none =>
    rw [show ((0 : Nat) : Int) = 0 from rfl, hg] at h
    exact h
   | some a =>
    rw [show ((0 : Nat) : Int) = 0 from rfl, hg] at h
    simp only
    rw [if_neg (by omega)]
    exact h
 ·refine Ev.congr (f := fun _ => some 6) (fun k => if_neg hs) ?_
  cases hg : Ck.checkGo n s 0 (List.replicate n 0) with
  | none => exact Ev.now _
  | some a => simp only; rw [if_pos hs]; exact Ev.now _
end Go.Proofs.Ytlldjinejckbaaa.PD

end
section
namespace Go.Proofs.Ytlldjinejckbaaa.PD
open Go Go.RowKit Go.Proofs.YtlldjinejckbaaaW.PrintWords Go.Proofs.YtlldjinejckbaaaW.PrintLast Go.Proofs.YtlldjinejckbaaaW.PrintMore
open Go.Proofs.Ytlldjinejckbaaa.Pg Go.Proofs.Ytlldjinejckbaaa.Pb Go.Proofs.Ytlldjinejckbaaa.Pf Go.Proofs.Ytlldjinejckbaaa.Pt Go.Proofs.Ytlldjinejckbaaa.Pq
structure MR (n : Nat) (l : List S55) (s : Int) (r : Nat) (M : List Bool) : Prop where
 len : M.length = n
 near : ∀ (d : Nat) (x : Int), Dist (E l) s x d → d ≤ r → 0 ≤ x → x < n → rdOf false M x = true
 only : ∀ x : Int, 0 ≤ x → x < n → rdOf false M x = true → Rch (E l) s x
theorem reachIn_l2M {n : Nat} (hn : n ≤ 12) {M : List Bool} (hM : M.length = n) : ∀ (d i : Nat) (out : List Int), i + d = n → out.length ≤ i → Ev (fun k => wireloomref05_Reach.l2 k n M out i) (out ++ ((List.range' i d).filter fun x : Nat => rdOf false M (x : Int)).map fun x : Nat => (x : Int)) := by
 intro d
 induction d with
 | zero =>
  intro i out hi ho
  refine Ev.step (f := fun _ => some out) (fun k => ?_) (by simpa using Ev.now out)
  simp only [wireloomref05_Reach.l2]
  rw [if_neg (by omega)]
 | succ d ih =>
  intro i out hi ho
  rw [List.range'_succ, List.filter_cons]
  by_cases hc : rdOf false M (i : Int) = true
  ·rw [if_pos hc, List.map_cons]
   have h := ih (i + 1) (out ++ [(i : Int)]) (by omega) (by rw [List.length_append]; simp only [List.length_cons, List.length_nil]; omega)
   rw [List.append_assoc, List.singleton_append] at h
   refine Ev.step (fun k => ?_) h
   simp only [wireloomref05_Reach.l2]
   rw [if_pos (by omega), if_pos (by omega), if_pos (by omega), if_pos hc, if_pos (by omega), wrap_nextW (by omega)]
  ·rw [if_neg hc]
   refine Ev.step (fun k => ?_) (ih (i + 1) out (by omega) (by omega))
   simp only [wireloomref05_Reach.l2]
   rw [if_pos (by omega), if_pos (by omega), if_pos (by omega), if_neg hc, wrap_nextW (by omega)]
theorem reachIn_l1M {n : Nat} {l : List S55} (hl : Ok n l) (hlen : l.length ≤ 1000) {s : Int} {r : Nat} {res : List Int} (hnext : ∀ M, MR n l s (r + 1) M → Ev (fun k => wireloomref05_Reach.l0 k n l M ((r + 1 : Nat) : Int)) res) :
  ∀ (d i : Nat) (M : List Bool), i + d = l.length → MR n l s r M → (∀ e ∈ l.take i, ∀ d' : Nat, Dist (E l) s e.f0 d' → d' ≤ r → rdOf false M e.f1 = true) → r < 1000 → Ev (fun k => wireloomref05_Reach.l1 k n l M r i) res := by
 intro d
 induction d with
 | zero =>
  intro i M hi hM hdone hr
  obtain rfl : i = l.length := by omega
  rw [List.take_length] at hdone
  refine Ev.step (fun k => ?_) (hnext M ⟨hM.len, fun d x hd hdr x0 x1 => ?_, hM.only⟩)
  ·simp only [wireloomref05_Reach.l1]
   rw [if_neg (by omega), wrap_nextW (by omega)]
  ·by_cases hc : d ≤ r
   ·exact hM.near d x hd hc x0 x1
   ·obtain rfl : d = r + 1 := by omega
    obtain ⟨m, hm, e, he, e0, e1⟩ := hd.prev
    have := hdone e he r (by rw [e0]; exact hm) (Nat.le_refl _)
    rw [e1] at this; exact this
 | succ d ih =>
  intro i M hi hM hdone hr
  have hil : i < l.length := by omega
  obtain ⟨a0, a1, b0, b1⟩ := hl l[i] (List.getElem_mem hil)
  have hml := hM.len
  have htk : l.take (i + 1) = l.take i ++ [l[i]] := List.take_succ_eq_append_getElem hil
  by_cases hc : rdOf false M l[i].f0 = true
  ·have hset : ∀ x : Int, 0 ≤ x → (rdOf false (M.set l[i].f1.toNat true) x = true ↔ x = l[i].f1 ∨ rdOf false M x = true) := fun x x0 => by
    by_cases e : x = l[i].f1
    ·subst e; rw [rdB_same _ _ _ b0 (by omega)]; simp
    ·rw [rdB_other _ _ _ _ x0 b0 e]; simp [e]
   have hM' : MR n l s r (M.set l[i].f1.toNat true) := ⟨by rw [List.length_set]; exact hml, fun d x hd hdr x0 x1 => (hset x x0).2 (.inr (hM.near d x hd hdr x0 x1)), fun x x0 x1 hx => by
    rcases (hset x x0).1 hx with e | hx
    ·subst e; exact (hM.only _ a0 a1 hc).trans (Rch.one ⟨l[i], List.getElem_mem hil, rfl, rfl⟩)
    ·exact hM.only x x0 x1 hx⟩
   refine Ev.step (fun k => ?_) (ih (i + 1) _ (by omega) hM' (fun e he d' hd hdr => ?_) hr)
   ·simp only [wireloomref05_Reach.l1]
    rw [if_pos (by omega), if_pos (by omega), rdT_getW hil, if_pos a0, if_pos (by omega), if_pos hc, if_pos b0, if_pos (by omega), wrap_nextW (by omega)]
   ·rw [htk] at he
    rcases List.mem_append.1 he with he | he
    ·exact (hset _ (hl e (List.mem_of_mem_take he)).2.2.1).2 (.inr (hdone e he d' hd hdr))
    ·rw [List.mem_singleton] at he; subst he
     exact (hset _ b0).2 (.inl rfl)
  ·refine Ev.step (fun k => ?_) (ih (i + 1) M (by omega) hM (fun e he d' hd hdr => ?_) hr)
   ·simp only [wireloomref05_Reach.l1]
    rw [if_pos (by omega), if_pos (by omega), rdT_getW hil, if_pos a0, if_pos (by omega), if_neg hc, wrap_nextW (by omega)]
   ·rw [htk] at he
    rcases List.mem_append.1 he with he | he
    ·exact hdone e he d' hd hdr
    ·rw [List.mem_singleton] at he; subst he
     exact absurd (hM.near d' _ hd hdr a0 a1) hc
theorem reachIn_l0M {n : Nat} (hn : n ≤ 12) {l : List S55} (hl : Ok n l) (hlen : l.length ≤ 1000) {s : Int} {res : List Int} (hend : ∀ M, MR n l s n M → Ev (fun k => wireloomref05_Reach.l2 k n M [] 0) res) : ∀ (d r : Nat) (M : List Bool), r + d = n → MR n l s r M → Ev (fun k => wireloomref05_Reach.l0 k n l M r) res := by
 intro d
 induction d with
 | zero =>
  intro r M hr hM
  obtain rfl : r = n := by omega
  refine Ev.step (fun k => ?_) (hend M hM)
  simp only [wireloomref05_Reach.l0]
  rw [if_neg (by omega)]
 | succ d ih =>
  intro r M hr hM
  refine Ev.step (fun k => ?_) (reachIn_l1M hl hlen (fun M' hM' => ih (r + 1) M' (by omega) hM') l.length 0 M (by omega) hM (by simp) (by omega))
  simp only [wireloomref05_Reach.l0]
  rw [if_pos (by omega)]
  rfl
theorem reachIn_evM {n : Nat} (hn : n ≤ 12) {l : List S55} (hl : Ok n l) (hlen : l.length ≤ 1000) (s : Int) : Ev (fun k => wireloomref05_Reach.f k n l s) (Rc.reachOf n l s) := by
 by_cases hs : 0 ≤ s ∧ s < n
 ·obtain ⟨s0, s1⟩ := hs
  have hR := reach_spec (n := n) (by omega) hl s0 s1
  have hend : ∀ M, MR n l s n M → Ev (fun k => wireloomref05_Reach.l2 k n M [] 0) (Rc.reachOf n l s) := fun M hM => by
   have h := reachIn_l2M hn hM.len n 0 [] (by omega) (by simp)
   have e : Rc.reachOf n l s = [] ++ ((List.range' 0 n).filter fun x : Nat => rdOf false M (x : Int)).map fun x : Nat => (x : Int) := by
    rw [List.nil_append]
    refine strict_ext hR.lt ?_ (fun x => ?_)
    ·rw [List.pairwise_map]
     exact (List.Pairwise.filter _ (List.pairwise_lt_range' (s := 0) (n := n))).imp (fun h => by omega)
    ·rw [hR.mem, List.mem_map]
     constructor
     ·rintro ⟨k, hk⟩
      have hF := from_spec (n := n) (by omega) (tells_nx hl) s0 s1
      obtain ⟨x', hx', e⟩ := List.mem_map.1 (hF.all k x hk)
      obtain ⟨d, _, hd, hdn, x0, x1⟩ := hF.dist x' hx'
      rw [e] at hd x0 x1
      refine ⟨x.toNat, List.mem_filter.2 ⟨List.mem_range'.2 ⟨x.toNat, by omega, by omega⟩, ?_⟩, by omega⟩
      rw [Int.toNat_of_nonneg x0]
      exact hM.near d x hd (by omega) x0 x1
     ·rintro ⟨m, hm, rfl⟩
      obtain ⟨h1, h2⟩ := List.mem_filter.1 hm
      obtain ⟨j, hj, e⟩ := List.mem_range'.1 h1
      exact hM.only (m : Int) (by omega) (by omega) h2
   rw [e]; exact h
  have h0 : MR n l s 0 ((List.replicate n false).set s.toNat true) := by
   have hM := (Mk.none n).set (Q := fun x => x = s) s0 s1 (fun x => by simp)
   refine ⟨hM.len, fun d x hd hdr x0 x1 => (hM.at_ x x0 x1).2 ?_, fun x x0 x1 hx => by rw [(hM.at_ x x0 x1).1 hx]; exact Rch.refl _ _⟩
   obtain rfl : d = 0 := by omega
   exact hd.1.symm
  have hj : Ev (fun k => wireloomref05_Reach.j0 k n l s false) (Rc.reachOf n l s) := by
   refine Ev.step (fun k => ?_) (reachIn_l0M hn hl hlen hend n 0 _ (by omega) h0)
   simp only [wireloomref05_Reach.j0]
   rw [if_neg (by decide), if_pos (by omega), if_pos (by rw [Int.toNat_natCast]; omega), Option.bind_some, if_pos s0, if_pos (by rw [List.length_replicate]; omega), Int.toNat_natCast]
   rfl
  refine Ev.congr (fun k => ?_) hj
  unfold wireloomref05_Reach.f
  rw [if_neg (by omega), decide_eq_false (by omega)]
 ·have e : Rc.reachOf n l s = [] := by unfold Rc.reachOf; rw [if_pos (by omega)]
  rw [e]
  have hj : Ev (fun k => wireloomref05_Reach.j0 k n l s true) ([] : List Int) := Ev.step (f := fun _ => some []) (fun k => by simp only [wireloomref05_Reach.j0]; rw [if_pos trivial]) (Ev.now _)
  refine Ev.congr (fun k => ?_) hj
  unfold wireloomref05_Reach.f
  by_cases c : s < 0
  ·rw [if_pos c]
  ·rw [if_neg c, decide_eq_true (by omega)]
def reaches (n : Nat) (l : List S55) : List (List Int) := (List.range n).map fun v : Nat => Rc.reachOf n l (v : Int)
theorem reaches_get {n : Nat} {l : List S55} {v : Nat} (h : v < n) : rd_L2 (reaches n l) (v : Int) = Rc.reachOf n l (v : Int) := by
 rw [rdL_getS (by unfold reaches; simpa using h)]
 unfold reaches
 simp
theorem mem_reaches {n : Nat} (hn : n ≤ 12) {l : List S55} (hl : Ok n l) {v : Nat} (h : v < n) (x : Int) : x ∈ Rc.reachOf n l (v : Int) ↔ Rch (E l) v x := (reach_spec (n := n) (by omega) hl (by omega) (by omega)).mem x
structure CP (n : Nat) (l : List S55) (C : List (List Int)) (M : List Bool) (v : Nat) : Prop where
 cls : ∀ c ∈ C, Cls (E l) c
 rng : ∀ c ∈ C, ∀ x ∈ c, 0 ≤ x ∧ x < (n : Int)
 mks : Mk n (fun x => ∃ c ∈ C, x ∈ c) M
 all : ∀ x : Int, 0 ≤ x → x < v → ∃ c ∈ C, x ∈ c
 srt : C.Pairwise fun a b => rd a 0 < rd b 0
 low : ∀ c ∈ C, rd c 0 < v
 len : C.length ≤ v
structure CW (n : Nat) (l : List S55) (C : List (List Int)) (M : List Bool) (v w : Nat) (c : List Int) : Prop where
 srt : c.Pairwise (· < ·)
 mem : ∀ x, x ∈ c ↔ 0 ≤ x ∧ x < (w : Int) ∧ Rch (E l) v x ∧ Rch (E l) x v
 mks : Mk n (fun x => (∃ d ∈ C, x ∈ d) ∨ x ∈ c) M
theorem compIn_l2M {n : Nat} (hn : n ≤ 12) {l : List S55} (hl : Ok n l) {C : List (List Int)} {v : Nat} (hv : v < n) (hC7 : C.length ≤ 100) {res : List (List Int)} (hnext : ∀ M c, CW n l C M v n c → Ev (fun k => wireloomref05_Components.l1 k n (reaches n l) (C ++ [c]) M ((v + 1 : Nat) : Int)) res) :
  ∀ (d w : Nat) (M : List Bool) (c : List Int), w + d = n → CW n l C M v w c → Ev (fun k => wireloomref05_Components.l2 k n (reaches n l) C M v c w) res := by
 have hrl : (reaches n l).length = n := by unfold reaches; simp
 have hRv := reach_spec (n := n) (by omega) hl (s := (v : Int)) (by omega) (by omega)
 have hRvl := hRv.len
 intro d
 induction d with
 | zero =>
  intro w M c hw hc
  obtain rfl : w = n := by omega
  refine Ev.step (fun k => ?_) (hnext M c hc)
  simp only [wireloomref05_Components.l2]
  rw [if_neg (by omega), if_pos (by omega), wrap_nextW (by omega)]
 | succ d ih =>
  intro w M c hw hc
  have hwn : w < n := by omega
  have hRw := reach_spec (n := n) (by omega) hl (s := (w : Int)) (by omega) (by omega)
  have hRwl := hRw.len
  have hml := hc.mks.len
  have hcl : c.length ≤ n := nodup_len (hc.srt.imp (fun h => by omega)) (fun x hx => by have := (hc.mem x).1 hx; omega)
  have hskip : ¬ (Rch (E l) v w ∧ Rch (E l) w v) → Ev (fun k => wireloomref05_Components.l2 k n (reaches n l) C M v c ((w + 1 : Nat) : Int)) res := fun hno => ih (w + 1) M c (by omega) ⟨hc.srt, fun x => by
   rw [hc.mem]
   constructor
   ·rintro ⟨h0, h1, h2⟩; exact ⟨h0, by omega, h2⟩
   ·rintro ⟨h0, h1, h2⟩
    have hne : x ≠ (w : Int) := fun e => hno (e ▸ h2)
    exact ⟨h0, by omega, h2⟩, hc.mks⟩
  refine Ev.step (f := fun k => (wireloomref05_In.f k (Rc.reachOf n l v) w).bind fun t394 => if t394 = true then ((wireloomref05_In.f k (Rc.reachOf n l w) v).bind fun t396 => if t396 = true then wireloomref05_Components.l2 k n (reaches n l) C (M.set w true) v (c ++ [(w : Int)]) ((w + 1 : Nat) : Int) else wireloomref05_Components.l2 k n (reaches n l) C M v c ((w + 1 : Nat) : Int)) else wireloomref05_Components.l2 k n (reaches n l) C M v c ((w + 1 : Nat) : Int)) (fun k => ?_) (Ev.bind (in_ev (by omega) _ (r := decide ((w : Int) ∈ Rc.reachOf n l v)) (by simp)) ?_)
  ·simp only [wireloomref05_Components.l2]
   rw [if_pos (by omega), if_pos (by omega), if_pos (by omega), reaches_get hv, reaches_get hwn, wrap_nextW (by omega), if_pos (by omega), if_pos (by omega), if_pos (by omega), if_pos (by omega), Int.toNat_natCast]
  ·by_cases hvw : Rch (E l) v w
   ·rw [decide_eq_true ((mem_reaches hn hl hv _).2 hvw)]
    simp only [if_true]
    refine Ev.bind (in_ev (by omega) _ (r := decide ((v : Int) ∈ Rc.reachOf n l w)) (by simp)) ?_
    by_cases hwv : Rch (E l) w v
    ·rw [decide_eq_true ((mem_reaches hn hl hwn _).2 hwv)]
     simp only [if_true]
     refine ih (w + 1) _ _ (by omega) ⟨?_, fun x => ?_, ?_⟩
     ·rw [List.pairwise_append]
      refine ⟨hc.srt, by simp, fun a ha b hb => ?_⟩
      rw [List.mem_singleton] at hb; subst hb
      exact ((hc.mem a).1 ha).2.1
     ·rw [List.mem_append, List.mem_singleton, hc.mem]
      constructor
      ·rintro (⟨h0, h1, h2⟩ | rfl)
       ·exact ⟨h0, by omega, h2⟩
       ·exact ⟨by omega, by omega, hvw, hwv⟩
      ·rintro ⟨h0, h1, h2⟩
       by_cases e : x = (w : Int)
       ·exact .inr e
       ·exact .inl ⟨h0, by omega, h2⟩
     ·have := hc.mks.set (y := (w : Int)) (Q := fun x => (∃ d ∈ C, x ∈ d) ∨ x ∈ c ++ [(w : Int)]) (by omega) (by omega) (fun x => by rw [List.mem_append, List.mem_singleton]; exact or_assoc.symm)
      rw [Int.toNat_natCast] at this
      exact this
    ·rw [decide_eq_false (fun h => hwv ((mem_reaches hn hl hwn _).1 h))]
     simp only [Bool.false_eq_true, if_false]
     exact hskip (fun h => hwv h.2)
   ·rw [decide_eq_false (fun h => hvw ((mem_reaches hn hl hv _).1 h))]
    simp only [Bool.false_eq_true, if_false]
    exact hskip (fun h => hvw h.1)
theorem compIn_l1M {n : Nat} (hn : n ≤ 12) {l : List S55} (hl : Ok n l) {D : List (List Int)} (hD : CompS n (E l) D) : ∀ (d v : Nat) (C : List (List Int)) (M : List Bool), v + d = n → CP n l C M v → Ev (fun k => wireloomref05_Components.l1 k n (reaches n l) C M v) D := by
 intro d
 induction d with
 | zero =>
  intro v C M hv hC
  obtain rfl : v = n := by omega
  have : C = D := CompS.one ⟨hC.cls, hC.rng, hC.all, hC.srt⟩ hD
  subst this
  refine Ev.step (f := fun _ => some C) (fun k => ?_) (Ev.now _)
  simp only [wireloomref05_Components.l1]
  rw [if_neg (by omega)]
 | succ d ih =>
  intro v C M hv hC
  have hvn : v < n := by omega
  have hml := hC.mks.len
  have hmv := hC.mks.at_ (v : Int) (by omega) (by omega)
  have hlen := hC.len
  by_cases hc : rdOf false M (v : Int) = true
  ·refine Ev.step (fun k => ?_) (ih (v + 1) C M (by omega) ⟨hC.cls, hC.rng, hC.mks, fun x x0 x1 => ?_, hC.srt, fun c hc => by have := hC.low c hc; omega, by omega⟩)
   ·simp only [wireloomref05_Components.l1]
    rw [if_pos (by omega), if_pos (by omega), if_pos (by omega), if_pos hc, wrap_nextW (by omega)]
   ·by_cases e : x = (v : Int)
    ·subst e; exact hmv.1 hc
    ·exact hC.all x x0 (by omega)
  ·have hno : ¬ ∃ c ∈ C, (v : Int) ∈ c := fun h => hc (hmv.2 h)
   have hge : ∀ x : Int, 0 ≤ x → Rch (E l) v x → Rch (E l) x v → (v : Int) ≤ x := fun x x0 h1 h2 => by
    refine Classical.byContradiction fun hlt => ?_
    obtain ⟨c, hcc, hx⟩ := hC.all x x0 (by omega)
    exact hno ⟨c, hcc, ((hC.cls c hcc).all x hx _).2 ⟨h2, h1⟩⟩
   have h0 : CW n l C M v v [] := ⟨by simp, fun x => by
    constructor
    ·intro h; simp at h
    ·rintro ⟨x0, x1, h1, h2⟩; have := hge x x0 h1 h2; omega, ⟨hml, fun x x0 x1 => by rw [hC.mks.at_ x x0 x1]; simp⟩⟩
   refine Ev.step (fun k => ?_) (compIn_l2M hn hl hvn (by omega) (fun M' c hW => ih (v + 1) (C ++ [c]) M' (by omega) ?_) (n - v) v M [] (by omega) h0)
   ·simp only [wireloomref05_Components.l1]
    rw [if_pos (by omega), if_pos (by omega), if_pos (by omega), if_neg hc]
   ·have hok : ∀ x : Int, Rch (E l) v x → 0 ≤ x ∧ x < n := fun x hx => by
     have hR := reach_spec (n := n) (by omega) hl (s := (v : Int)) (by omega) (by omega)
     exact hR.rng x ((hR.mem x).2 hx)
    have hmem : ∀ x, x ∈ c ↔ Rch (E l) v x ∧ Rch (E l) x v := fun x => by
     rw [hW.mem]
     exact ⟨fun h => h.2.2, fun h => ⟨(hok x h.1).1, (hok x h.1).2, h⟩⟩
    have hvc : (v : Int) ∈ c := (hmem _).2 ⟨Rch.refl _ _, Rch.refl _ _⟩
    have hne : c ≠ [] := fun e => by rw [e] at hvc; simp at hvc
    have hfirst : rd c 0 = (v : Int) := by
     have h1 := rd_zero_mem hne
     have h2 := (hmem _).1 h1
     have h3 := hge _ (hok _ h2.1).1 h2.1 h2.2
     obtain ⟨i, hi, e⟩ := List.getElem_of_mem hvc
     have h4 : rd c 0 = c[0]'(by omega) := by have := rd_getL (l := c) (i := 0) (by omega); simpa using this
     by_cases hi0 : i = 0
     ·subst hi0; rw [h4, e]
     ·have := List.pairwise_iff_getElem.1 hW.srt 0 i (by omega) hi (by omega)
      rw [h4] at h3 ⊢
      omega
    have hcls : Cls (E l) c := ⟨hne, hW.srt, fun x hx y => by
     obtain ⟨a, b⟩ := (hmem x).1 hx
     rw [hmem]
     exact ⟨fun ⟨p, q⟩ => ⟨b.trans p, q.trans a⟩, fun ⟨p, q⟩ => ⟨a.trans p, q.trans b⟩⟩⟩
    refine ⟨fun e he => ?_, fun e he => ?_, ⟨hW.mks.len, fun x x0 x1 => ?_⟩, fun x x0 x1 => ?_, ?_, fun e he => ?_, by rw [List.length_append]; simp only [List.length_cons, List.length_nil]; omega⟩
    ·rcases List.mem_append.1 he with he | he
     ·exact hC.cls e he
     ·rw [List.mem_singleton] at he; subst he; exact hcls
    ·rcases List.mem_append.1 he with he | he
     ·exact hC.rng e he
     ·rw [List.mem_singleton] at he; subst he
      exact fun x hx => hok x ((hmem x).1 hx).1
    ·rw [hW.mks.at_ x x0 x1]
     constructor
     ·rintro (⟨e, he, hx⟩ | hx)
      ·exact ⟨e, List.mem_append_left _ he, hx⟩
      ·exact ⟨c, by simp, hx⟩
     ·rintro ⟨e, he, hx⟩
      rcases List.mem_append.1 he with he | he
      ·exact .inl ⟨e, he, hx⟩
      ·rw [List.mem_singleton] at he; subst he; exact .inr hx
    ·by_cases e : x = (v : Int)
     ·subst e; exact ⟨c, by simp, hvc⟩
     ·obtain ⟨e', he, hx⟩ := hC.all x x0 (by omega)
      exact ⟨e', List.mem_append_left _ he, hx⟩
    ·rw [List.pairwise_append]
     refine ⟨hC.srt, by simp, fun a ha b hb => ?_⟩
     rw [List.mem_singleton] at hb; subst hb
     rw [hfirst]; exact hC.low a ha
    ·rcases List.mem_append.1 he with he | he
     ·have := hC.low e he; omega
     ·rw [List.mem_singleton] at he; subst he; rw [hfirst]; omega
theorem compIn_l0M {n : Nat} (hn : n ≤ 12) {l : List S55} (hl : Ok n l) (hlen : l.length ≤ 1000) {D : List (List Int)} (hD : CompS n (E l) D) : ∀ (d v : Nat), v + d = n → Ev (fun k => wireloomref05_Components.l0 k n l ((reaches n l).take v) v) D := by
 have hrl : (reaches n l).length = n := by unfold reaches; simp
 intro d
 induction d with
 | zero =>
  intro v hv
  obtain rfl : v = n := by omega
  have h0 : CP v l [] (List.replicate v false) 0 := ⟨by simp, by simp, ⟨by simp, fun x x0 x1 => by rw [(Mk.none v).at_ x x0 x1]; simp⟩, fun x x0 x1 => by omega, by simp, by simp, by simp⟩
  refine Ev.step (fun k => ?_) (compIn_l1M hn hl hD v 0 [] _ (by omega) h0)
  simp only [wireloomref05_Components.l0]
  rw [if_neg (by omega), if_pos (by omega), if_pos (by rw [Int.toNat_natCast]; omega), Int.toNat_natCast, List.take_of_length_le (by omega)]
  rfl
 | succ d ih =>
  intro v hv
  have e : (reaches n l).take (v + 1) = (reaches n l).take v ++ [Rc.reachOf n l v] := by
   rw [List.take_succ_eq_append_getElem (by omega), ← rdL_getS (by omega), reaches_get (by omega)]
  have h := ih (v + 1) (by omega)
  rw [e] at h
  refine Ev.step (f := fun k => (wireloomref05_Reach.f k n l v).bind fun t => wireloomref05_Components.l0 k n l ((reaches n l).take v ++ [t]) ((v + 1 : Nat) : Int)) (fun k => ?_) (Ev.bind (reachIn_evM hn hl hlen _) h)
  simp only [wireloomref05_Components.l0]
  have hll : ((reaches n l).take v).length < 5864062014805 := by rw [List.length_take]; omega
  rw [if_pos (by omega), wrap_nextW (by omega)]
  congr 1
  funext t
  rw [if_pos hll]
theorem compIn_evM {n : Nat} (hn : n ≤ 12) {l : List S55} (hl : Ok n l) (hlen : l.length ≤ 1000) {D : List (List Int)} (hD : CompS n (E l) D) : Ev (fun k => wireloomref05_Components.f k n l) D := compIn_l0M hn hl hlen hD n 0 (by omega)
end Go.Proofs.Ytlldjinejckbaaa.PD

end
section
namespace Go.Proofs.Ytlldjinejckbaaa.PD
open Go Go.RowKit Go.Proofs.YtlldjinejckbaaaW.PrintWords Go.Proofs.YtlldjinejckbaaaW.PrintLast Go.Proofs.YtlldjinejckbaaaW.PrintMore
open Go.Proofs.Ytlldjinejckbaaa.Pg Go.Proofs.Ytlldjinejckbaaa.Pb Go.Proofs.Ytlldjinejckbaaa.Po Go.Proofs.Ytlldjinejckbaaa.Pd
structure DT (n : Nat) (D P cur : List Int) : Prop where
 len : cur.length = n
 val : ∀ w : Int, 0 ≤ w → w < n → rd cur w = if w ∈ P then rd D w else 0
theorem mx_max (a b : Int) : mx a b = max a b := by unfold mx; split <;> omega
theorem depIn_l1M {n : Nat} (hn : n ≤ 12) {l : List S55} (hl : Ok n l) (hlen : l.length ≤ 1000) {o D P cur : List Int} (hD : DInv n l o D) (hol : o.length = n) (hall : ∀ w : Int, 0 ≤ w → w < n → w ∈ o) (hT : DT n D P cur) {v : Int} (v0 : 0 ≤ v) (v1 : v < n) (hvP : v ∉ P) (hpr : ∀ u, E l u v → u ∈ P) {i : Nat} {R : List Int × Int} (hi : i ≤ 1000)
  (hnext : Ev (fun k => wireloomref05_DepthIn.l0 k n l (cur.set v.toNat (rd D v)) ((i + 1 : Nat) : Int) o 0) R) :
  ∀ (d j : Nat) (x : Int), j + d = l.length → 0 ≤ x → (x = 0 ∨ ∃ u, E l u v ∧ x = rd D u + 1) → (∀ e ∈ l.take j, e.f1 = v → rd D e.f0 + 1 ≤ x) → Ev (fun k => wireloomref05_DepthIn.l1 k n l (cur.set v.toNat x) i v j o 0) R := by
 have hcl := hT.len
 have hset : ∀ (x y : Int), 0 ≤ y → rd (cur.set v.toNat x) y = if y = v then x else rd cur y := fun x y hy => by
  by_cases e : y = v
  ·subst e; rw [if_pos rfl, Mod.rd_set_same _ _ _ v0 (by omega)]
  ·rw [if_neg e, Mod.rd_set_other _ _ _ _ hy v0 e]
 intro d
 induction d with
 | zero =>
  intro j x hj x0 hx hge
  obtain rfl : j = l.length := by omega
  rw [List.take_length] at hge
  have hxe : x = rd D v := by
   have h1 : x ≤ rd D v := by
    rcases hx with hx | ⟨u, hu, hx⟩
    ·have := (hD.lo v v0 v1).1; omega
    ·have := hD.ge u v (hall u (hu.ok hl).1 (hu.ok hl).2.1) hu; omega
   have h2 : rd D v ≤ x := by
    rcases hD.at_ v v0 v1 with h | ⟨u, _, ⟨e, hem, e0, e1⟩, h⟩
    ·omega
    ·have := hge e hem e1
     rw [e0] at this; omega
   omega
  subst hxe
  refine Ev.step (fun k => ?_) hnext
  simp only [wireloomref05_DepthIn.l1]
  rw [if_neg (by omega), wrap_nextW (by omega)]
 | succ d ih =>
  intro j x hj x0 hx hge
  have hjl : j < l.length := by omega
  obtain ⟨a0, a1, b0, b1⟩ := hl l[j] (List.getElem_mem hjl)
  have htk : l.take (j + 1) = l.take j ++ [l[j]] := List.take_succ_eq_append_getElem hjl
  have hsl : (cur.set v.toNat x).length = n := by rw [List.length_set]; exact hcl
  by_cases hc : l[j].f1 = v
  ·have hE : E l l[j].f0 v := ⟨l[j], List.getElem_mem hjl, rfl, hc⟩
   have hu : l[j].f0 ≠ v := fun e => hvP (e ▸ hpr _ hE)
   have h1 : rd (cur.set v.toNat x) v = x := by rw [hset x v v0, if_pos rfl]
   have h2 : rd (cur.set v.toNat x) l[j].f0 = rd D l[j].f0 := by rw [hset x _ a0, if_neg hu, hT.val _ a0 a1, if_pos (hpr _ hE)]
   have h3 := hD.lo l[j].f0 a0 a1
   have hss : (cur.set v.toNat x).set v.toNat (max x (rd D l[j].f0 + 1)) = cur.set v.toNat (max x (rd D l[j].f0 + 1)) := by rw [List.set_set]
   refine Ev.step (fun k => ?_) (ih (j + 1) (max x (rd D l[j].f0 + 1)) (by omega) (by omega) ?_ (fun e he hev => ?_))
   ·simp only [wireloomref05_DepthIn.l1]
    rw [if_pos (by omega), if_pos (by omega), rdT_getW hjl, if_pos hc, if_pos v0, if_pos (by omega), if_pos a0, if_pos (by omega), h1, h2, wrap_ok (x := rd D l[j].f0 + 1) (by omega) (by omega), mx_max, hss, wrap_nextW (by omega)]
   ·by_cases hm : x ≤ rd D l[j].f0 + 1
    ·exact .inr ⟨l[j].f0, hE, by omega⟩
    ·rw [show max x (rd D l[j].f0 + 1) = x by omega]; exact hx
   ·rw [htk] at he
    rcases List.mem_append.1 he with he | he
    ·have := hge e he hev; omega
    ·rw [List.mem_singleton] at he; subst he; omega
  ·refine Ev.step (fun k => ?_) (ih (j + 1) x (by omega) x0 hx (fun e he hev => ?_))
   ·simp only [wireloomref05_DepthIn.l1]
    rw [if_pos (by omega), if_pos (by omega), rdT_getW hjl, if_neg hc, wrap_nextW (by omega)]
   ·rw [htk] at he
    rcases List.mem_append.1 he with he | he
    ·exact hge e he hev
    ·rw [List.mem_singleton] at he; subst he; exact absurd hev hc
theorem rd_ext {a b : List Int} (h : a.length = b.length) (he : ∀ i : Nat, i < a.length → rd a (i : Int) = rd b (i : Int)) : a = b := by
 refine List.ext_getElem h fun i h1 h2 => ?_
 rw [← rd_get h1, ← rd_get h2]; exact he i h1
theorem depIn_l0M {n : Nat} (hn : n ≤ 12) {l : List S55} (hl : Ok n l) (hlen : l.length ≤ 1000) {o D : List Int} (hg : Greedy n l o) (hol : o.length = n) (hD : DInv n l o D) : ∀ (d m : Nat) (cur : List Int), m + d = n → DT n D (o.take m) cur → Ev (fun k => wireloomref05_DepthIn.l0 k n l cur m o 0) (D, 0) := by
 have hall := nodup_all hg.nodup hg.range hol
 intro d
 induction d with
 | zero =>
  intro m cur hm hT
  obtain rfl : m = n := by omega
  rw [List.take_of_length_le (by omega)] at hT
  have e : cur = D := rd_ext (by rw [hT.len, hD.len]) (fun i hi => by
   have := hT.len
   rw [hT.val _ (by omega) (by omega), if_pos (hall _ (by omega) (by omega))])
  subst e
  refine Ev.step (f := fun _ => some (cur, 0)) (fun k => ?_) (Ev.now _)
  simp only [wireloomref05_DepthIn.l0]
  rw [if_neg (by omega)]
 | succ d ih =>
  intro m cur hm hT
  have hmo : m < o.length := by omega
  obtain ⟨v0, v1, v2, v3⟩ := (hg m hmo).1
  have hcl := hT.len
  have e : o.take (m + 1) = o.take m ++ [rd o (m : Int)] := by rw [rd_get hmo, List.take_succ_eq_append_getElem hmo]
  have hz : rd cur (rd o (m : Int)) = 0 := by rw [hT.val _ v0 v1, if_neg v2]
  have hs : cur.set (rd o (m : Int)).toNat 0 = cur := by
   have h1 : cur[(rd o (m : Int)).toNat]'(by omega) = 0 := by
    have h2 : rd cur (rd o (m : Int)) = cur[(rd o (m : Int)).toNat]'(by omega) := by
     show cur.getD (rd o (m : Int)).toNat 0 = _
     rw [List.getD_eq_getElem?_getD, List.getElem?_eq_getElem (by omega)]
     rfl
    rw [← h2]; exact hz
   rw [← h1]; exact List.set_getElem_self _
  have hT' : DT n D (o.take (m + 1)) (cur.set (rd o (m : Int)).toNat (rd D (rd o (m : Int)))) := by
   refine ⟨by rw [List.length_set]; exact hcl, fun w w0 w1 => ?_⟩
   rw [e]
   by_cases ew : w = rd o (m : Int)
   ·rw [if_pos (by simp [ew]), ew, Mod.rd_set_same _ _ _ v0 (by omega)]
   ·rw [Mod.rd_set_other _ _ _ _ w0 v0 ew, hT.val w w0 w1]
    by_cases hw : w ∈ o.take m
    ·rw [if_pos hw, if_pos (by simp [hw])]
    ·rw [if_neg hw, if_neg (by simp [hw, ew])]
  have h := depIn_l1M hn hl hlen hD hol hall hT v0 v1 v2 v3 (i := m) (by omega) (ih (m + 1) _ (by omega) hT') l.length 0 0 (by omega) (by omega) (.inl rfl) (by simp)
  rw [hs] at h
  refine Ev.step (fun k => ?_) h
  simp only [wireloomref05_DepthIn.l0]
  rw [if_pos (by omega), if_pos (by omega), if_pos (by omega)]
  rfl
theorem depth_atM {n : Nat} (hn : n ≤ 12) {l : List S55} (hl : Ok n l) (hlen : l.length ≤ 1000) : wireloomlaw05_depth.f n l = Dp.depthOf n l := by
 unfold wireloomlaw05_depth.f digraph_Depth.f
 rw [if_pos (ok_condW hn hl hlen), Int.toNat_natCast]
 cases Dp.depthOf n l <;> rfl
theorem depthIn_evM {n : Nat} (hn : n ≤ 12) {l : List S55} (hl : Ok n l) (hlen : l.length ≤ 1000) : ∃ D e, wireloomlaw05_depth.f n l = some (D, e) ∧ Ev (fun k => wireloomref05_DepthIn.f k n l) (D, e) ∧ D.length ≤ n := by
 obtain ⟨o, h1, hg, hev⟩ := orderIn_evM hn hl hlen
 rw [depth_atM hn hl hlen]
 unfold Dp.depthOf
 rw [h1, Option.map_some]
 by_cases hc : o.length < n
 ·rw [if_pos hc] at hev ⊢
  refine ⟨[], 50, rfl, ?_, by simp⟩
  unfold wireloomref05_DepthIn.f
  refine Ev.bind hev ?_
  simp only
  exact Ev.congr (fun k => if_neg (by decide)) (Ev.now _)
 ·rw [if_neg hc] at hev ⊢
  have hol : o.length = n := by have := hg.len; omega
  have hD := depthGo_spec (n := n) (by omega) hl hg
  refine ⟨Dp.depthGo (nx n l) o (List.replicate n 0), 0, rfl, ?_, by rw [hD.len]; exact Nat.le_refl _⟩
  unfold wireloomref05_DepthIn.f
  refine Ev.bind hev ?_
  have h0 : DT n (Dp.depthGo (nx n l) o (List.replicate n 0)) (o.take 0) (List.replicate n 0) := ⟨by simp, fun w _ _ => by rw [if_neg (by simp)]; exact Pc.rd_zeros n w⟩
  refine Ev.congr (fun k => ?_) (depIn_l0M hn hl hlen hg hol hD n 0 _ (by omega) h0)
  rw [if_pos rfl, if_pos (by omega), if_pos (by rw [Int.toNat_natCast]; omega), Int.toNat_natCast]
  rfl
end Go.Proofs.Ytlldjinejckbaaa.PD

end
section
namespace Go.Proofs.Ytlldjinejckbaaa.PD
open Go Go.RowKit Go.Proofs.YtlldjinejckbaaaW.PrintWords Go.Proofs.YtlldjinejckbaaaW.PrintLast Go.Proofs.YtlldjinejckbaaaW.PrintMore
open Go.Proofs.Ytlldjinejckbaaa.Mod Go.Proofs.Ytlldjinejckbaaa.Ng Go.Proofs.Ytlldjinejckbaaa.Gi Go.Proofs.Ytlldjinejckbaaa.Cl Go.Proofs.Ytlldjinejckbaaa.Cy
open Go.Proofs.Ytlldjinejckbaaa.Pg Go.Proofs.Ytlldjinejckbaaa.Pb Go.Proofs.Ytlldjinejckbaaa.Pf Go.Proofs.Ytlldjinejckbaaa.Po
theorem rdM_ext {a b : List Int} (h : a.length = b.length) (he : ∀ i : Nat, i < a.length → rd a (i : Int) = rd b (i : Int)) : a = b := by
 refine List.ext_getElem h fun i h1 h2 => ?_
 rw [← rd_get h1, ← rd_get h2]; exact he i h1
theorem dist_of_pa {R : Int → Int → Prop} {u v : Int} : ∀ (k : Nat), Pa R k u v → ∃ j, j ≤ k ∧ Dist R u v j := by
 intro k
 induction k using Nat.strongRecOn with
 | ind k ih =>
  intro hp
  by_cases h : ∃ j, j < k ∧ Pa R j u v
  ·obtain ⟨j, hj, hpj⟩ := h
   obtain ⟨i, hi, hd⟩ := ih j hj hpj
   exact ⟨i, by omega, hd⟩
  ·exact ⟨k, Nat.le_refl _, hp, fun j hj hpj => h ⟨j, hj, hpj⟩⟩
structure BK (n : Nat) (l : List S55) (v : Int) (d : Nat) (B : List Int) : Prop where
 len : B.length = n
 near : ∀ (x : Int) (k : Nat), 0 ≤ x → x < n → Dist (E l) x v k → k ≤ d → rd B x = k
 far : ∀ x : Int, 0 ≤ x → x < n → rd B x ≠ -1 → ∃ k : Nat, rd B x = k ∧ k ≤ d ∧ Dist (E l) x v k
theorem rd_setM {B : List Int} {y z : Int} (y0 : 0 ≤ y) (y1 : y < B.length) {x : Int} (x0 : 0 ≤ x) : rd (B.set y.toNat z) x = if x = y then z else rd B x := by
 by_cases e : x = y
 ·subst e; rw [if_pos rfl, Mod.rd_set_same _ _ _ y0 y1]
 ·rw [if_neg e, Mod.rd_set_other _ _ _ _ x0 y0 e]
theorem back_l2M {n : Nat} (hn : n ≤ 12) {l : List S55} (hl : Ok n l) (hlen : l.length ≤ 1000) {v : Int} {d0 : Nat} (hd0 : d0 ≤ 100) {res : List Int} (hnext : ∀ B, BK n l v (d0 + 1) B → Ev (fun k => wireloomref05_Back.l1 k n l B ((d0 + 1 : Nat) : Int)) res) :
  ∀ (d i : Nat) (B : List Int), i + d = l.length → B.length = n → (∀ (x : Int) (k : Nat), 0 ≤ x → x < n → Dist (E l) x v k → k ≤ d0 → rd B x = k) → (∀ x : Int, 0 ≤ x → x < n → rd B x ≠ -1 → ∃ k : Nat, rd B x = k ∧ k ≤ d0 + 1 ∧ Dist (E l) x v k) → (∀ e ∈ l.take i, Dist (E l) e.f1 v d0 → rd B e.f0 ≠ -1) →
  Ev (fun k => wireloomref05_Back.l2 k n l B d0 i) res := by
 intro d
 induction d with
 | zero =>
  intro i B hi hB hnear hfar hdone
  obtain rfl : i = l.length := by omega
  rw [List.take_length] at hdone
  refine Ev.step (fun k => ?_) (hnext B ⟨hB, fun x k x0 x1 hd hk => ?_, hfar⟩)
  ·simp only [wireloomref05_Back.l2]
   rw [if_neg (by omega), wrap_nextW (by omega)]
  ·by_cases hc : k ≤ d0
   ·exact hnear x k x0 x1 hd hc
   ·obtain rfl : k = d0 + 1 := by omega
    obtain ⟨m, hm, hmd⟩ := hd.next
    obtain ⟨e, he, e0, e1⟩ := hm
    have := hdone e he (by rw [e1]; exact hmd)
    rw [e0] at this
    obtain ⟨k', h1, _, h2⟩ := hfar x x0 x1 this
    rw [h1, h2.eq hd]
 | succ d ih =>
  intro i B hi hB hnear hfar hdone
  have hil : i < l.length := by omega
  obtain ⟨a0, a1, b0, b1⟩ := hl l[i] (List.getElem_mem hil)
  have htk : l.take (i + 1) = l.take i ++ [l[i]] := List.take_succ_eq_append_getElem hil
  have hE : E l l[i].f0 l[i].f1 := ⟨l[i], List.getElem_mem hil, rfl, rfl⟩
  have p0 : (i : Int) < (l.length : Int) := by omega
  have p1 : (0 : Int) ≤ (i : Int) := by omega
  have p2 : l[i].f1 < (B.length : Int) := by omega
  have p3 : l[i].f0 < (B.length : Int) := by omega
  have p4 : i + 1 + d = l.length := by omega
  have hneq : ((d0 + 1 : Nat) : Int) ≠ -1 := by omega
  have hlt1 : ∀ j k : Nat, j ≤ k → k < d0 + 1 → j ≤ d0 := fun j k h1 h2 => by omega
  by_cases hc : rd B l[i].f1 = d0
  ·
   have hde : Dist (E l) l[i].f1 v d0 := by
    obtain ⟨k, h1, _, h2⟩ := hfar _ b0 b1 (by omega)
    obtain rfl : k = d0 := by omega
    exact h2
   by_cases hs : rd B l[i].f0 < 0
   ·have hdf : Dist (E l) l[i].f0 v (d0 + 1) := by
     refine ⟨by rw [Nat.add_comm]; exact (Pa.one hE).add hde.1, fun k hk hp => ?_⟩
     have hex : ∃ j, j ≤ k ∧ Dist (E l) l[i].f0 v j := dist_of_pa _ hp
     obtain ⟨j, hj, hdj⟩ := hex
     have := hnear _ j a0 a1 hdj (hlt1 j k hj hk)
     omega
    have hset : ∀ x : Int, 0 ≤ x → rd (B.set l[i].f0.toNat ((d0 + 1 : Nat) : Int)) x = if x = l[i].f0 then ((d0 + 1 : Nat) : Int) else rd B x := fun x x0 => rd_setM a0 p3 x0
    have hw : wrap64 ((d0 : Int) + 1) = ((d0 + 1 : Nat) : Int) := wrap_nextW (by omega)
    have hwi : wrap64 ((i : Int) + 1) = ((i + 1 : Nat) : Int) := wrap_nextW (by clear hw; omega)
    refine Ev.step (fun k => ?_) (ih (i + 1) (B.set l[i].f0.toNat ((d0 + 1 : Nat) : Int)) p4 (by rw [List.length_set]; exact hB) (fun x k x0 x1 hd hk => ?_) (fun x x0 x1 hx => ?_) (fun e he hed => ?_))
    ·simp only [wireloomref05_Back.l2]
     rw [if_pos p0, if_pos p1, rdT_getW hil, if_pos b0, if_pos p2, if_pos hc, if_pos a0, if_pos p3, if_pos hs, hw, hwi]
    ·rw [hset x x0]
     by_cases e : x = l[i].f0
     ·subst e
      have := hd.eq hdf
      clear hw hwi; omega
     ·rw [if_neg e]; exact hnear x k x0 x1 hd hk
    ·rw [hset x x0] at hx ⊢
     by_cases e : x = l[i].f0
     ·subst e; rw [if_pos rfl]; exact ⟨d0 + 1, rfl, Nat.le_refl _, hdf⟩
     ·rw [if_neg e] at hx ⊢; exact hfar x x0 x1 hx
    ·have h0 : 0 ≤ e.f0 := (hl e (List.mem_of_mem_take he)).1
     rw [hset _ h0]
     rw [htk] at he
     split
     ·exact hneq
     ·rename_i hne
      rcases List.mem_append.1 he with he | he
      ·exact hdone e he hed
      ·rw [List.mem_singleton] at he; subst he; exact absurd rfl hne
   ·refine Ev.step (fun k => ?_) (ih (i + 1) B (by omega) hB hnear hfar (fun e he hed => ?_))
    ·simp only [wireloomref05_Back.l2]
     rw [if_pos p0, if_pos p1, rdT_getW hil, if_pos b0, if_pos p2, if_pos hc, if_pos a0, if_pos p3, if_neg hs, wrap_nextW (by omega)]
    ·rw [htk] at he
     rcases List.mem_append.1 he with he | he
     ·exact hdone e he hed
     ·rw [List.mem_singleton] at he; subst he; omega
  ·refine Ev.step (fun k => ?_) (ih (i + 1) B (by omega) hB hnear hfar (fun e he hed => ?_))
   ·simp only [wireloomref05_Back.l2]
    rw [if_pos p0, if_pos p1, rdT_getW hil, if_pos b0, if_pos p2, if_neg hc, wrap_nextW (by omega)]
   ·rw [htk] at he
    rcases List.mem_append.1 he with he | he
    ·exact hdone e he hed
    ·rw [List.mem_singleton] at he; subst he
     exact absurd (hnear _ d0 b0 b1 hed (Nat.le_refl _)) hc
theorem BK.one {n : Nat} {l : List S55} {v : Int} {d : Nat} {A B : List Int} (hA : BK n l v d A) (hB : BK n l v d B) : A = B := by
 have key : ∀ {A B : List Int}, BK n l v d A → BK n l v d B → ∀ x : Int, 0 ≤ x → x < n → rd A x ≠ -1 → rd A x = rd B x := fun {A B} hA hB x x0 x1 h => by
  obtain ⟨k, e, hk, hd⟩ := hA.far x x0 x1 h
  rw [e, hB.near x k x0 x1 hd hk]
 refine rdM_ext (by rw [hA.len, hB.len]) fun i hi => ?_
 have hl := hA.len
 by_cases h1 : rd A (i : Int) = -1
 ·by_cases h2 : rd B (i : Int) = -1
  ·rw [h1, h2]
  ·exact (key hB hA _ (by omega) (by omega) h2).symm
 ·exact key hA hB _ (by omega) (by omega) h1
theorem back_l1M {n : Nat} (hn : n ≤ 12) {l : List S55} (hl : Ok n l) (hlen : l.length ≤ 1000) {v : Int} {R : List Int} (hR : BK n l v n R) : ∀ (d d0 : Nat) (B : List Int), d0 + d = n → BK n l v d0 B → Ev (fun k => wireloomref05_Back.l1 k n l B d0) R := by
 intro d
 induction d with
 | zero =>
  intro d0 B hd hB
  obtain rfl : d0 = n := by omega
  have := hB.one hR
  subst this
  refine Ev.step (f := fun _ => some B) (fun k => ?_) (Ev.now _)
  simp only [wireloomref05_Back.l1]
  rw [if_neg (by omega)]
 | succ d ih =>
  intro d0 B hd hB
  refine Ev.step (fun k => ?_) (back_l2M hn hl hlen (by omega) (fun B' hB' => ih (d0 + 1) B' (by omega) hB') l.length 0 B (by omega) hB.len hB.near (fun x x0 x1 h => by
   obtain ⟨k, e, hk, hd⟩ := hB.far x x0 x1 h
   exact ⟨k, e, by omega, hd⟩) (by simp))
  simp only [wireloomref05_Back.l1]
  rw [if_pos (by omega)]
  rfl
theorem back_l0M {n : Nat} (hn : n ≤ 12) {l : List S55} {v : Int} (v0 : 0 ≤ v) (v1 : v < n) {R : List Int} (h : Ev (fun k => wireloomref05_Back.l1 k n l ((List.replicate n (-1)).set v.toNat 0) 0) R) : ∀ (d i : Nat), i + d = n → Ev (fun k => wireloomref05_Back.l0 k n l v (List.replicate i (-1) ++ List.replicate d 0) i) R := by
 intro d
 induction d with
 | zero =>
  intro i hi
  obtain rfl : i = n := by omega
  refine Ev.step (fun k => ?_) h
  simp only [wireloomref05_Back.l0]
  rw [if_neg (by omega), List.replicate_zero, List.append_nil, if_pos v0, if_pos (by rw [List.length_replicate]; exact v1)]
 | succ d ih =>
  intro i hi
  have e : (List.replicate i (-1 : Int) ++ List.replicate (d + 1) 0).set i (-1) = List.replicate (i + 1) (-1) ++ List.replicate d 0 := by
   rw [List.set_append_right _ _ (by simp), List.length_replicate, Nat.sub_self, List.replicate_succ, List.set_cons_zero, List.replicate_succ', List.append_assoc]
   rfl
  refine Ev.step (fun k => ?_) (ih (i + 1) (by omega))
  simp only [wireloomref05_Back.l0]
  rw [if_pos (by omega), if_pos (by omega), if_pos (by simp; omega), Int.toNat_natCast, e, wrap_nextW (by omega)]
theorem back_evM {n : Nat} (hn : n ≤ 12) {l : List S55} (hl : Ok n l) (hlen : l.length ≤ 1000) {v : Int} (v0 : 0 ≤ v) (v1 : v < n) : ∃ R, BK n l v n R ∧ Ev (fun k => wireloomref05_Back.f k n l v) R := by
 have hex : ∀ x : Nat, ∃ y : Int, (∀ k : Nat, Dist (E l) x v k → k ≤ n → y = k) ∧ (y ≠ -1 → ∃ k : Nat, y = k ∧ k ≤ n ∧ Dist (E l) x v k) := fun x => by
  by_cases h : ∃ k : Nat, Dist (E l) x v k ∧ k ≤ n
  ·obtain ⟨k, hd, hk⟩ := h
   exact ⟨k, fun j hj _ => by rw [hj.eq hd], fun _ => ⟨k, rfl, hk, hd⟩⟩
  ·exact ⟨-1, fun k hd hk => absurd ⟨k, hd, hk⟩ h, fun hne => absurd rfl hne⟩
 obtain ⟨f, hf⟩ := Classical.skolem.1 hex
 have hget : ∀ x : Int, 0 ≤ x → x < n → rd ((List.range n).map f) x = f x.toNat := fun x x0 x1 => by
  unfold rd
  rw [List.getD_eq_getElem?_getD, List.getElem?_map, List.getElem?_range (by omega)]
  rfl
 have hR : BK n l v n ((List.range n).map f) := ⟨by simp, fun x k x0 x1 hd hk => by
  rw [hget x x0 x1]
  exact (hf x.toNat).1 k (by rw [Int.toNat_of_nonneg x0]; exact hd) hk, fun x x0 x1 h => by
  rw [hget x x0 x1] at h ⊢
  obtain ⟨k, e, hk, hd⟩ := (hf x.toNat).2 h
  rw [Int.toNat_of_nonneg x0] at hd
  exact ⟨k, e, hk, hd⟩⟩
 refine ⟨_, hR, ?_⟩
 have hrep : ∀ x : Int, 0 ≤ x → x < n → rd (List.replicate n (-1)) x = -1 := fun x x0 x1 => by
  unfold rd
  rw [List.getD_eq_getElem?_getD, List.getElem?_replicate, if_pos (by omega)]
  rfl
 have h0 : BK n l v 0 ((List.replicate n (-1)).set v.toNat 0) := by
  have hs : ∀ x : Int, 0 ≤ x → x < n → rd ((List.replicate n (-1)).set v.toNat 0) x = if x = v then 0 else -1 := fun x x0 x1 => by
   rw [rd_setM v0 (by rw [List.length_replicate]; exact v1) x0, hrep x x0 x1]
  refine ⟨by simp, fun x k x0 x1 hd hk => ?_, fun x x0 x1 h => ?_⟩
  ·obtain rfl : k = 0 := by omega
   have e : x = v := hd.1
   rw [hs x x0 x1, if_pos e]; rfl
  ·rw [hs x x0 x1] at h ⊢
   by_cases e : x = v
   ·subst e; rw [if_pos rfl]; exact ⟨0, rfl, Nat.le_refl _, rfl, fun k hk => by omega⟩
   ·rw [if_neg e] at h; exact absurd rfl h
 have h := back_l0M hn v0 v1 (back_l1M hn hl hlen hR n 0 _ (by omega) h0) n 0 (by omega)
 rw [List.replicate_zero, List.nil_append] at h
 refine Ev.congr (fun k => ?_) h
 unfold wireloomref05_Back.f
 rw [if_pos (by omega), if_pos (by rw [Int.toNat_natCast]; omega), Int.toNat_natCast]
 rfl
theorem through_goM {n : Nat} {l : List S55} (hl : Ok n l) (hlen : l.length ≤ 1000) {v : Int} {B : List Int} (hB : BK n l v n B) (hn : n ≤ 12) {res : Int}
  (hres : ∀ best : Int, ((best = 0 ∧ ∀ e ∈ l, e.f0 = v → rd B e.f1 < 0) ∨ (1 ≤ best ∧ (∃ e ∈ l, e.f0 = v ∧ 0 ≤ rd B e.f1 ∧ best = rd B e.f1 + 1) ∧ ∀ e ∈ l, e.f0 = v → 0 ≤ rd B e.f1 → best ≤ rd B e.f1 + 1)) → best = res) :
  ∀ (d i : Nat) (best : Int), i + d = l.length → ((best = 0 ∧ ∀ e ∈ l.take i, e.f0 = v → rd B e.f1 < 0) ∨ (1 ≤ best ∧ (∃ e ∈ l.take i, e.f0 = v ∧ 0 ≤ rd B e.f1 ∧ best = rd B e.f1 + 1) ∧ ∀ e ∈ l.take i, e.f0 = v → 0 ≤ rd B e.f1 → best ≤ rd B e.f1 + 1)) →
  Ev (fun k => wireloomref05_through.l0 k l v B best i) res := by
 have hBl := hB.len
 intro d
 induction d with
 | zero =>
  intro i best hi h
  obtain rfl : i = l.length := by omega
  rw [List.take_length] at h
  rw [← hres best h]
  refine Ev.step (f := fun _ => some best) (fun k => ?_) (Ev.now _)
  simp only [wireloomref05_through.l0]
  rw [if_neg (by omega)]
 | succ d ih =>
  intro i best hi h
  have hil : i < l.length := by omega
  obtain ⟨a0, a1, b0, b1⟩ := hl l[i] (List.getElem_mem hil)
  have htk : l.take (i + 1) = l.take i ++ [l[i]] := List.take_succ_eq_append_getElem hil
  have hmem : ∀ e, e ∈ l.take (i + 1) ↔ e ∈ l.take i ∨ e = l[i] := fun e => by rw [htk, List.mem_append, List.mem_singleton]
  have hup : rd B l[i].f1 ≤ 100 := by
   by_cases hz : rd B l[i].f1 = -1
   ·omega
   ·obtain ⟨k, e, hk, _⟩ := hB.far _ b0 b1 hz
    omega
  have p1 : (0 : Int) ≤ (i : Int) := by omega
  have p2 : l[i].f1 < (B.length : Int) := by omega
  have p0 : (i : Int) < (l.length : Int) := by omega
  have hwi : wrap64 ((i : Int) + 1) = ((i + 1 : Nat) : Int) := wrap_nextW (by omega)
  by_cases hc : l[i].f0 = v ∧ 0 ≤ rd B l[i].f1
  ·have hbd : -1000000 ≤ rd B l[i].f1 + 1 ∧ rd B l[i].f1 + 1 ≤ 1000000 := by clear hwi; omega
   have hw := wrap_ok hbd.1 hbd.2
   by_cases hlt : best = 0 ∨ rd B l[i].f1 + 1 < best
   ·refine Ev.step (fun k => ?_) (ih (i + 1) (rd B l[i].f1 + 1) (by clear hwi hw; omega) (.inr ⟨by clear hwi hw; omega, ⟨l[i], (hmem _).2 (.inr rfl), hc.1, hc.2, rfl⟩, fun e he hev he0 => ?_⟩))
    ·simp only [wireloomref05_through.l0]
     rw [if_pos p0, if_pos p1, rdT_getW hil, if_pos b0, if_pos p2, if_pos hc.1, if_pos hc.2, hw, hwi]
     by_cases hz : best = 0
     ·rw [if_pos hz]
     ·rw [if_neg hz, if_pos (hlt.resolve_left hz)]
    ·rcases (hmem e).1 he with he | he
     ·rcases h with ⟨_, h⟩ | ⟨_, _, h⟩
      ·have := h e he hev; clear hwi hw; omega
      ·have := h e he hev he0; clear hwi hw; omega
     ·subst he; exact Int.le_refl _
   ·have hb0 : ¬ best = 0 := fun h => hlt (.inl h)
    have hb1 : ¬ rd B l[i].f1 + 1 < best := fun h => hlt (.inr h)
    obtain ⟨h1, ⟨e, he, he1, he2, he3⟩, h3⟩ := h.resolve_left (fun h => hb0 h.1)
    refine Ev.step (fun k => ?_) (ih (i + 1) best (by clear hwi hw; omega) (.inr ⟨h1, ⟨e, (hmem _).2 (.inl he), he1, he2, he3⟩, fun e' he' hev he0 => ?_⟩))
    ·simp only [wireloomref05_through.l0]
     rw [if_pos p0, if_pos p1, rdT_getW hil, if_pos b0, if_pos p2, if_pos hc.1, if_pos hc.2, hw, hwi, if_neg hb0, if_neg hb1]
    ·rcases (hmem e').1 he' with he' | he'
     ·exact h3 e' he' hev he0
     ·subst he'; exact Int.not_lt.1 hb1
  ·refine Ev.step (fun k => ?_) (ih (i + 1) best (by clear hwi; omega) ?_)
   ·simp only [wireloomref05_through.l0]
    rw [if_pos p0, if_pos p1, rdT_getW hil, if_pos b0, if_pos p2, hwi]
    by_cases hv : l[i].f0 = v
    ·rw [if_pos hv, if_neg (fun h => hc ⟨hv, h⟩)]
    ·rw [if_neg hv]
   ·rcases h with ⟨h0, h⟩ | ⟨h1, ⟨e, he, he1⟩, h3⟩
    ·refine .inl ⟨h0, fun e he hev => ?_⟩
     rcases (hmem e).1 he with he | he
     ·exact h e he hev
     ·subst he; exact Int.not_le.1 (fun h => hc ⟨hev, h⟩)
    ·refine .inr ⟨h1, ⟨e, (hmem _).2 (.inl he), he1⟩, fun e' he' hev he0 => ?_⟩
     rcases (hmem e').1 he' with he' | he'
     ·exact h3 e' he' hev he0
     ·subst he'; exact absurd ⟨hev, he0⟩ hc
theorem BK.full {n : Nat} (hn : n ≤ 12) {l : List S55} (hl : Ok n l) {v : Int} {B : List Int} (hB : BK n l v n B) (v0 : 0 ≤ v) (v1 : v < n) {x : Int} (x0 : 0 ≤ x) (x1 : x < n) {k : Nat} (hd : Dist (E l) x v k) : rd B x = k := by
 refine hB.near x k x0 x1 hd ?_
 have hF := from_spec (n := n) (by omega) (tells_pv hl) v0 v1
 have := hF.get hd.flip
 obtain ⟨d, e, _, hdn, _⟩ := hF.dist _ this
 have e' : (k : Int) = (d : Int) := e
 omega
theorem through_evM {n : Nat} (hn : n ≤ 12) {l : List S55} (hl : Ok n l) (hlen : l.length ≤ 1000) {v : Int} (v0 : 0 ≤ v) (v1 : v < n) : Ev (fun k => wireloomref05_through.f k n l v) (girthOf (nx n l) v) := by
 obtain ⟨B, hB, hev⟩ := back_evM hn hl hlen v0 v1
 unfold wireloomref05_through.f
 refine Ev.bind hev ?_
 refine through_goM hl hlen hB hn (fun best h => ?_) l.length 0 0 (by omega) (.inl ⟨rfl, by simp⟩)
 have hpos : ∀ e ∈ l, e.f0 = v → ∀ k : Nat, Dist (E l) e.f1 v k → rd B e.f1 = k := fun e he _ k hd => hB.full hn hl v0 v1 (hl e he).2.2.1 (hl e he).2.2.2 hd
 have hclose : ∀ e ∈ l, e.f0 = v → 0 ≤ rd B e.f1 → ∃ k : Nat, rd B e.f1 = k ∧ Pa (E l) (k + 1) v v := fun e he hev h0 => by
  obtain ⟨k, e1, _, hd⟩ := hB.far _ (hl e he).2.2.1 (hl e he).2.2.2 (by omega)
  refine ⟨k, e1, ?_⟩
  rw [Nat.add_comm]
  exact (Pa.one ⟨e, he, hev, rfl⟩).add hd.1
 have hfirst : ∀ k : Nat, Pa (E l) (k + 1) v v → ∃ e ∈ l, e.f0 = v ∧ 0 ≤ rd B e.f1 ∧ rd B e.f1 ≤ (k : Int) := fun k hp => by
  rw [Nat.add_comm] at hp
  obtain ⟨m, ⟨a, ha, e, he, e0, e1⟩, hm⟩ := Pa.split hp
  have ha' : v = a := ha
  obtain ⟨j, hj, hd⟩ := dist_of_pa _ hm
  have := hpos e he (by rw [e0, ha']) j (by rw [e1]; exact hd)
  exact ⟨e, he, by rw [e0, ha'], by omega, by omega⟩
 rcases girth_spec (n := n) (by omega) (tells_nx hl) v0 v1 with ⟨hg, hno⟩ | ⟨g, hg, hgn, hL⟩
 ·rw [hg]
  rcases h with ⟨h, _⟩ | ⟨_, ⟨e, he, hev, h0, _⟩, _⟩
  ·exact h
  ·obtain ⟨k, _, hp⟩ := hclose e he hev h0
   exact absurd hp (hno _ (by omega))
 ·rw [hg]
  obtain ⟨g', rfl⟩ : ∃ g', g = g' + 1 := ⟨g - 1, by have := hL.1; omega⟩
  obtain ⟨e, he, hev, h0, hle⟩ := hfirst g' hL.2.1
  rcases h with ⟨_, h⟩ | ⟨h1, ⟨e', he', hev', h0', hb⟩, hmin⟩
  ·have := h e he hev; omega
  ·have h2 := hmin e he hev h0
   obtain ⟨k, hk, hp⟩ := hclose e' he' hev' h0'
   have h3 : ¬ k + 1 < g' + 1 := fun hlt => hL.2.2 _ (by omega) hlt hp
   omega
theorem least_goM {n : Nat} {l : List S55} (hl : Ok n l) (hlen : l.length ≤ 1000) {B : List Int} (hBl : B.length = n) {u z w : Int} (hE : E l u w) (hw : rd B w = z) (hmin : ∀ y, E l u y → rd B y = z → w ≤ y) : ∀ (d i : Nat) (at_ : Int), i + d = l.length → ((at_ = -1 ∧ ∀ e ∈ l.take i, e.f0 = u → rd B e.f1 ≠ z) ∨ (E l u at_ ∧ rd B at_ = z ∧ ∀ e ∈ l.take i, e.f0 = u → rd B e.f1 = z → at_ ≤ e.f1)) →
  Ev (fun k => wireloomref05_least.l0 k l B at_ i u z) w := by
 intro d
 induction d with
 | zero =>
  intro i a hi h
  obtain rfl : i = l.length := by omega
  rw [List.take_length] at h
  have : a = w := by
   obtain ⟨e, he, e0, e1⟩ := hE
   rcases h with ⟨_, h⟩ | ⟨h1, h2, h3⟩
   ·exact absurd (by rw [e1]; exact hw) (h e he e0)
   ·have := h3 e he e0 (by rw [e1]; exact hw)
    have := hmin a h1 h2
    omega
  subst this
  refine Ev.step (f := fun _ => some a) (fun k => ?_) (Ev.now _)
  simp only [wireloomref05_least.l0]
  rw [if_neg (by omega)]
 | succ d ih =>
  intro i a hi h
  have hil : i < l.length := by omega
  obtain ⟨a0, a1, b0, b1⟩ := hl l[i] (List.getElem_mem hil)
  have htk : l.take (i + 1) = l.take i ++ [l[i]] := List.take_succ_eq_append_getElem hil
  have hmem : ∀ e, e ∈ l.take (i + 1) ↔ e ∈ l.take i ∨ e = l[i] := fun e => by rw [htk, List.mem_append, List.mem_singleton]
  have p0 : (i : Int) < (l.length : Int) := by omega
  have p1 : (0 : Int) ≤ (i : Int) := by omega
  have p2 : l[i].f1 < (B.length : Int) := by omega
  have ha0 : a = -1 ∨ 0 ≤ a := by
   rcases h with ⟨h, _⟩ | ⟨h, _⟩
   ·exact .inl h
   ·exact .inr (h.ok hl).2.2.1
  have hwi : wrap64 ((i : Int) + 1) = ((i + 1 : Nat) : Int) := wrap_nextW (by omega)
  by_cases hc : l[i].f0 = u ∧ rd B l[i].f1 = z
  ·have hEi : E l u l[i].f1 := ⟨l[i], List.getElem_mem hil, hc.1, rfl⟩
   by_cases hlt : a < 0 ∨ l[i].f1 < a
   ·refine Ev.step (fun k => ?_) (ih (i + 1) l[i].f1 (by clear hwi; omega) (.inr ⟨hEi, hc.2, fun e he hev hez => ?_⟩))
    ·simp only [wireloomref05_least.l0]
     rw [if_pos p0, if_pos p1, rdT_getW hil, if_pos hc.1, if_pos b0, if_pos p2, if_pos hc.2, hwi]
     by_cases hz : a < 0
     ·rw [if_pos hz]
     ·rw [if_neg hz, if_pos (hlt.resolve_left hz)]
    ·rcases (hmem e).1 he with he | he
     ·rcases h with ⟨_, h⟩ | ⟨h1, _, h⟩
      ·exact absurd hez (h e he hev)
      ·have := h e he hev hez
       have := (h1.ok hl).2.2.1
       clear hwi; omega
     ·subst he; exact Int.le_refl _
   ·have n1 : ¬ a < 0 := fun h => hlt (.inl h)
    have n2 : ¬ l[i].f1 < a := fun h => hlt (.inr h)
    refine Ev.step (fun k => ?_) (ih (i + 1) a (by clear hwi; omega) ?_)
    ·simp only [wireloomref05_least.l0]
     rw [if_pos p0, if_pos p1, rdT_getW hil, if_pos hc.1, if_pos b0, if_pos p2, if_pos hc.2, hwi, if_neg n1, if_neg n2]
    ·rcases h with ⟨h, _⟩ | ⟨h1, h2, h3⟩
     ·exact absurd (by rw [h]; decide) n1
     ·refine .inr ⟨h1, h2, fun e he hev hez => ?_⟩
      rcases (hmem e).1 he with he | he
      ·exact h3 e he hev hez
      ·subst he; exact Int.not_lt.1 n2
  ·refine Ev.step (fun k => ?_) (ih (i + 1) a (by clear hwi; omega) ?_)
   ·simp only [wireloomref05_least.l0]
    rw [if_pos p0, if_pos p1, rdT_getW hil, hwi]
    by_cases hu : l[i].f0 = u
    ·rw [if_pos hu, if_pos b0, if_pos p2, if_neg (fun h => hc ⟨hu, h⟩)]
    ·rw [if_neg hu]
   ·rcases h with ⟨h, h'⟩ | ⟨h1, h2, h3⟩
    ·refine .inl ⟨h, fun e he hev => ?_⟩
     rcases (hmem e).1 he with he | he
     ·exact h' e he hev
     ·subst he; exact fun hh => hc ⟨hev, hh⟩
    ·refine .inr ⟨h1, h2, fun e he hev hez => ?_⟩
     rcases (hmem e).1 he with he | he
     ·exact h3 e he hev hez
     ·subst he; exact absurd ⟨hev, hez⟩ hc
theorem cycIn_l1M {n : Nat} (hn : n ≤ 12) {l : List S55} (hl : Ok n l) (hlen : l.length ≤ 1000) {left B : List Int} {first : Int} {best : Nat} (hbn : best ≤ 12) (hBl : B.length = n) (hit : ∀ (y : Int) (i : Nat), 0 ≤ y → y < n → 1 ≤ i → i ≤ best → (y ≠ first ∧ rd left y = (i : Int) ↔ rd B y = (i : Int))) :
  ∀ (kk : Nat) (out r : List Int), 1 ≤ out.length → out.length ≤ best → (∀ v ∈ out, 0 ≤ v ∧ v < (n : Int)) → cycGo (nx n l) left first best kk out = some r → Ev (fun k => wireloomref05_CycleIn.l1 k l B out ((best - out.length : Nat) : Int)) (r, 0)
 | 0, out, r, h1, h2, hr, h => by
  unfold cycGo at h
  split at h
  ·cases h
  ·rename_i hc
   cases h
   refine Ev.step (f := fun _ => some (out, 0)) (fun k => ?_) (Ev.now _)
   simp only [wireloomref05_CycleIn.l1]
   rw [if_neg (by omega)]
 | kk + 1, out, r, h1, h2, hr, h => by
  unfold cycGo at h
  split at h
  ·rename_i hc
   split at h
   ·rename_i y hf
    have hlm : lastOf out ∈ out := by
     unfold lastOf rd
     rw [List.getD_eq_getElem?_getD, List.getElem?_eq_getElem (by omega)]
     exact List.getElem_mem _
    obtain ⟨q0, q1⟩ := hr _ hlm
    have hw : wrap64 ((best : Int) - (out.length : Int)) = ((best - out.length : Nat) : Int) := by rw [wrap_ok (by omega) (by omega)]; omega
    have hy := List.mem_of_find?_eq_some hf
    have hyp := List.find?_some hf
    have hRy : E l (lastOf out) y := (mem_nx hl y q0 q1).1 hy
    obtain ⟨_, _, y0, y1⟩ := hRy.ok hl
    have hhit : ∀ x : Int, 0 ≤ x → x < n → (hits left first best out.length x = true ↔ rd B x = ((best - out.length : Nat) : Int)) := fun x x0 x1 => by
     rw [← hit x (best - out.length) x0 x1 (by clear hw; omega) (by clear hw; omega)]
     unfold hits
     rw [hw]
     simp
    have hyz := (hhit y y0 y1).1 hyp
    have hmin : ∀ x, E l (lastOf out) x → rd B x = ((best - out.length : Nat) : Int) → y ≤ x := fun x hx hxz => by
     obtain ⟨_, _, x0, x1⟩ := hx.ok hl
     have hxm := (mem_nx hl x q0 q1).2 hx
     have hs := row_strict (built n l true) (lastOf out)
     obtain ⟨_, as9, bs9, hsp, hno⟩ := List.find?_eq_some_iff_append.1 hf
     rw [hsp] at hxm hs
     rw [List.pairwise_append] at hs
     rcases List.mem_append.1 hxm with hm | hm
     ·have := hno x hm
      rw [(hhit x x0 x1).2 hxz] at this
      simp at this
     ·rcases List.mem_cons.1 hm with hm | hm
      ·rw [hm]; exact Int.le_refl _
      ·exact Int.le_of_lt ((List.pairwise_cons.1 hs.2.1).1 x hm)
    have hnext := cycIn_l1M hn hl hlen hbn hBl hit kk (out ++ [y]) r (by simp) (by rw [List.length_append]; simp only [List.length_cons, List.length_nil]; clear hw; omega) (fun v hv => by
     rcases List.mem_append.1 hv with hv | hv
     ·exact hr v hv
     ·rw [List.mem_singleton] at hv; subst hv; exact ⟨y0, y1⟩) h
    rw [List.length_append, List.length_singleton] at hnext
    have hl1 : wrap64 ((out.length : Int) - 1) = (out.length : Int) - 1 := wrap_ok (by clear hw; omega) (by clear hw; omega)
    have hi1 : wrap64 (((best - out.length : Nat) : Int) - 1) = ((best - (out.length + 1) : Nat) : Int) := by rw [wrap_ok (by clear hw hl1; omega) (by clear hw hl1; omega)]; clear hw hl1; omega
    have g1 : ((best - out.length : Nat) : Int) > 0 := by clear hw hl1 hi1; omega
    have g2 : 0 ≤ (out.length : Int) - 1 := by clear hw hl1 hi1; omega
    have g3 : (out.length : Int) - 1 < (out.length : Int) := by clear hw hl1 hi1; omega
    have g4 : out.length < 17592186044416 := by clear hw hl1 hi1; omega
    refine Ev.step (f := fun k => (wireloomref05_least.f k l B (lastOf out) ((best - out.length : Nat) : Int)).bind fun t => wireloomref05_CycleIn.l1 k l B (out ++ [t]) ((best - (out.length + 1) : Nat) : Int)) (fun k => ?_) (Ev.bind (least_goM hl hlen hBl hRy hyz hmin l.length 0 (-1) (by clear hw hl1 hi1; omega) (.inl ⟨rfl, by simp⟩)) hnext)
    simp only [wireloomref05_CycleIn.l1]
    rw [if_pos g1, hl1, if_pos g2, if_pos g3, hi1]
    simp only [if_pos g4]
    rfl
   ·cases h
  ·rename_i hc
   cases h
   refine Ev.step (f := fun _ => some (out, 0)) (fun k => ?_) (Ev.now _)
   simp only [wireloomref05_CycleIn.l1]
   rw [if_neg (by omega)]
theorem cycIn_l0M {n : Nat} (hn : n ≤ 12) {l : List S55} (hl : Ok n l) (hlen : l.length ≤ 1000) {R : List Int × Int} (h : Ev (fun k => wireloomref05_CycleIn.l0 k n l (least1 (nx n l) n).1 (if (least1 (nx n l) n).1 = 0 then -1 else (least1 (nx n l) n).2) n) R) :
  ∀ (d v : Nat), v + d = n → Ev (fun k => wireloomref05_CycleIn.l0 k n l (least1 (nx n l) v).1 (if (least1 (nx n l) v).1 = 0 then -1 else (least1 (nx n l) v).2) v) R := by
 intro d
 induction d with
 | zero =>
  intro v hv
  obtain rfl : v = n := by omega
  exact h
 | succ d ih =>
  intro v hv
  have hnext := ih (v + 1) (by omega)
  rw [least1_succ] at hnext
  generalize least1 (nx n l) v = s at hnext ⊢
  refine Ev.step (f := fun k => (wireloomref05_through.f k n l v).bind fun t315 => if t315 > 0 then (if s.1 = 0 then wireloomref05_CycleIn.l0 k n l t315 v ((v + 1 : Nat) : Int) else (if t315 < s.1 then wireloomref05_CycleIn.l0 k n l t315 v ((v + 1 : Nat) : Int) else wireloomref05_CycleIn.l0 k n l s.1 (if s.1 = 0 then -1 else s.2) ((v + 1 : Nat) : Int))) else wireloomref05_CycleIn.l0 k n l s.1 (if s.1 = 0 then -1 else s.2) ((v + 1 : Nat) : Int)) (fun k => ?_) (Ev.bind (through_evM hn hl hlen (v := (v : Int)) (by omega) (by omega)) ?_)
  ·simp only [wireloomref05_CycleIn.l0]
   rw [if_pos (by omega), wrap_nextW (by omega)]
  ·unfold pick1 at hnext
   by_cases h0 : 0 < girthOf (nx n l) v
   ·simp only [if_pos h0]
    have hg0 : ¬ girthOf (nx n l) v = 0 := by omega
    by_cases h1 : s.1 = 0
    ·simp only [if_pos h1]
     rw [if_pos ⟨h0, .inl h1⟩] at hnext
     simp only [if_neg hg0] at hnext
     exact hnext
    ·simp only [if_neg h1]
     by_cases h2 : girthOf (nx n l) v < s.1
     ·simp only [if_pos h2]
      rw [if_pos ⟨h0, .inr h2⟩] at hnext
      simp only [if_neg hg0] at hnext
      exact hnext
     ·simp only [if_neg h2]
      rw [if_neg (fun hh => hh.2.elim h1 h2)] at hnext
      simp only [if_neg h1] at hnext
      exact hnext
   ·simp only [if_neg h0]
    rw [if_neg (fun hh => h0 hh.1)] at hnext
    exact hnext
theorem cycleIn_evM {n : Nat} (hn : n ≤ 12) {l : List S55} (hl : Ok n l) (hlen : l.length ≤ 1000) : ∃ c e, wireloomlaw05_cycle.f n l = some (c, e) ∧ Ev (fun k => wireloomref05_CycleIn.f k n l) (c, e) ∧ c.length ≤ n := by
 rw [cycle_atW hn hl hlen]
 have hT := tells_nx hl
 have hB := tells_pv hl
 have hLe := least1_spec (n := n) (by omega) hT n (Nat.le_refl _)
 have hcl : ∀ c e, Cy.cycleOf n l = some (c, e) → c.length ≤ n := fun c e h => by
  rcases cycle_spec (n := n) (by omega) hl with ⟨h1, _⟩ | ⟨c', h1, h2⟩
  ·rw [h1] at h; cases h; simp
  ·rw [h1] at h; cases h; exact h2.le
 have hend : ∀ c e, Cy.cycleOf n l = some (c, e) → Ev (fun k => wireloomref05_CycleIn.l0 k n l (least1 (nx n l) n).1 (if (least1 (nx n l) n).1 = 0 then -1 else (least1 (nx n l) n).2) n) (c, e) := fun c e h => by
  unfold cycleOf at h
  change (if (least1 (nx n l) n).1 = 0 then some ([], 4) else if 1000000 < (least1 (nx n l) n).1 then none else
   (cycGo (nx n l) (Cy.leftOf n (fromOf (pv n l) (least1 (nx n l) n).2)) (least1 (nx n l) n).2 (least1 (nx n l) n).1 (least1 (nx n l) n).1.toNat [(least1 (nx n l) n).2]).map fun r => (r, 0)) = some (c, e) at h
  generalize least1 (nx n l) n = s at hLe h ⊢
  obtain ⟨best, first⟩ := s
  simp only at h ⊢
  by_cases hb : best = 0
  ·rw [if_pos hb] at h ⊢
   cases h
   refine Ev.step (f := fun _ => some (([] : List Int), (4 : Int))) (fun k => ?_) (Ev.now _)
   simp only [wireloomref05_CycleIn.l0]
   rw [if_neg (by omega), if_pos (by omega)]
  ·rw [if_neg hb] at h ⊢
   obtain ⟨g, rfl, hgn, f0, f1, hL, _, _⟩ := hLe.some_ hb
   rw [if_neg (by omega), Int.toNat_natCast] at h
   obtain ⟨r, hr, hre⟩ := Option.map_eq_some_iff.1 h
   cases hre
   have hF := from_spec (n := n) (by omega) hB f0 f1
   have hrng : ∀ x ∈ fromOf (pv n l) first, 0 ≤ x.1 ∧ x.1 < (n : Int) := fun x hx => by obtain ⟨_, _, _, _, a, b⟩ := hF.dist x hx; exact ⟨a, b⟩
   obtain ⟨B, hBK, hBev⟩ := back_evM hn hl hlen f0 f1
   have hit : ∀ (y : Int) (i : Nat), 0 ≤ y → y < n → 1 ≤ i → i ≤ g → (y ≠ first ∧ rd (Cy.leftOf n (fromOf (pv n l) first)) y = (i : Int) ↔ rd B y = (i : Int)) := fun y i y0 y1 hi _ => by
    have hsp := leftOf_spec (n := n) (R := E l) (s := first) (fromOf (pv n l) first) (List.replicate n 0) (by simp) hF.nd hrng y y0 y1
    change (∀ d, (y, d) ∈ fromOf (pv n l) first → rd (Cy.leftOf n (fromOf (pv n l) first)) y = d) ∧ (y ∉ (fromOf (pv n l) first).map (·.1) → rd (Cy.leftOf n (fromOf (pv n l) first)) y = rd (List.replicate n 0) y) at hsp
    constructor
    ·rintro ⟨hne, hly⟩
     by_cases hm : y ∈ (fromOf (pv n l) first).map (·.1)
     ·obtain ⟨x, hx, e⟩ := List.mem_map.1 hm
      obtain ⟨d, e1, e2, _⟩ := hF.dist x hx
      have hx' : (y, (d : Int)) ∈ fromOf (pv n l) first := by rw [← e, ← e1]; exact hx
      have h1 := hsp.1 _ hx'
      rw [h1] at hly
      rw [e] at e2
      rw [hBK.full hn hl f0 f1 y0 y1 e2.flip]; exact hly
     ·have h1 := hsp.2 hm
      rw [h1, Pc.rd_zeros] at hly
      omega
    ·intro hby
     obtain ⟨k, e1, _, hd⟩ := hBK.far y y0 y1 (by omega)
     have hk : k = i := by omega
     subst hk
     refine ⟨fun e => ?_, hsp.1 _ (hF.get hd.flip)⟩
     subst e
     exact hd.2 0 (by omega) rfl
   have h1 := cycIn_l1M hn hl hlen (by omega) hBK.len hit g [first] c (by simp) (by have := hL.1; simpa using this) (fun v hv => by rw [List.mem_singleton] at hv; subst hv; exact ⟨f0, f1⟩) hr
   have hwg : wrap64 ((g : Int) - 1) = ((g - [first].length : Nat) : Int) := by
    have := hL.1
    rw [wrap_ok (by omega) (by omega), List.length_singleton]; omega
   refine Ev.step (f := fun k => (wireloomref05_Back.f k n l first).bind fun t316 => wireloomref05_CycleIn.l1 k l t316 [first] ((g - [first].length : Nat) : Int)) (fun k => ?_) (Ev.bind hBev h1)
   simp only [wireloomref05_CycleIn.l0]
   rw [if_neg (by clear hwg; omega), if_neg (by clear hwg; omega), hwg]
 have hex : ∃ c e, Cy.cycleOf n l = some (c, e) := by
  rcases cycle_spec (n := n) (by omega) hl with ⟨h1, _⟩ | ⟨c', h1, _⟩
  ·exact ⟨_, _, h1⟩
  ·exact ⟨_, _, h1⟩
 obtain ⟨c, e, h⟩ := hex
 exact ⟨c, e, h, cycIn_l0M hn hl hlen (hend c e h) n 0 (by omega), hcl c e h⟩
end Go.Proofs.Ytlldjinejckbaaa.PD

end
section
namespace Go.Proofs.Ytlldjinejckbaaa.PD
open Go Go.RowKit Go.Proofs.YtlldjinejckbaaaW.PrintWords Go.Proofs.YtlldjinejckbaaaW.PrintLast Go.Proofs.YtlldjinejckbaaaW.PrintMore
open Go.Proofs.Ytlldjinejckbaaa.Pg Go.Proofs.Ytlldjinejckbaaa.Pb Go.Proofs.Ytlldjinejckbaaa.Po Go.Proofs.Ytlldjinejckbaaa.Pt Go.Proofs.Ytlldjinejckbaaa.Pq
theorem matches_pure (a b : Int) (ha : 0 ≤ a) (hb : 0 ≤ b) (B : List Int) (hB : ∀ x ∈ B, 0 ≤ x ∧ x ≤ 255) (N : Int) (F : List S55) (L : List Int) (s : Int) : ∃ k, wireloomlaw05_DigraphMatchesReference.f k a b B N F L s = some true := by
 refine Ev.rounds (g := fun k => wireloomlaw05_DigraphMatchesReference.f k a b B N F L s) ?_
 have hup : Ev (fun k => wireloomlaw05_DigraphMatchesReference.j0 k true true a b B N F L s) true := Ev.step (f := fun _ => some true) (fun k => by simp only [wireloomlaw05_DigraphMatchesReference.j0]; rw [if_pos trivial]) (Ev.now _)
 unfold wireloomlaw05_DigraphMatchesReference.f
 refine Ev.bind examples_ev ?_
 simp only [if_true]
 by_cases h1 : (F.length : Int) > 100
 ·simp only [if_pos h1]; exact hup
 ·simp only [if_neg h1]
  by_cases h2 : (L.length : Int) > 40
  ·rw [decide_eq_true h2]; exact hup
  ·rw [decide_eq_false h2]
   obtain ⟨n, l, hmade, hn, hl, hlen⟩ := made_spec a b ha hb hB
   obtain ⟨r, v1, v2, _⟩ := valid_evM N (l := F) (by omega)
   obtain ⟨r', v3, _, v4⟩ := valid_evM (n : Int) (l := l) (by omega)
   have hr' : r' = true := v4 (by omega) (by omega) hl
   subst hr'
   obtain ⟨o, o1, hg, o2⟩ := orderIn_evM hn hl (show l.length ≤ 1000 by omega)
   have o3 := order_atS hn hl (show l.length ≤ 1000 by omega)
   rw [o1] at o3
   obtain ⟨c, ce, c1, c2, c3⟩ := cycleIn_evM hn hl (show l.length ≤ 1000 by omega)
   obtain ⟨D, de, d1, d2, d3⟩ := depthIn_evM hn hl (show l.length ≤ 1000 by omega)
   have k1 := check_atS hn hl (show l.length ≤ 1000 by omega) (s := L) (by omega)
   have k2 := checkIn_evM hn hl (show l.length ≤ 1000 by omega) L
   have r1 := reach_atL hn hl (show l.length ≤ 1000 by omega) s
   have r2 := reachIn_evM hn hl (show l.length ≤ 1000 by omega) s
   obtain ⟨C, p1, hC⟩ := comps_spec (n := n) (by omega) hl
   have p2 := comps_atS hn hl (show l.length ≤ 1000 by omega)
   rw [p1] at p2
   have p3 := compIn_evM hn hl (show l.length ≤ 1000 by omega) hC
   obtain ⟨q1, q2⟩ := comp_lens hC
   have hrl : (Rc.reachOf n l s).length ≤ 1000 := by
    by_cases hs : 0 ≤ s ∧ s < n
    ·have := (reach_spec (n := n) (by omega) hl hs.1 hs.2).len
     omega
    ·unfold Rc.reachOf
     rw [if_pos (by omega)]; simp
   have hol := hg.len
   obtain ⟨R, hR⟩ : ∃ R : List Int × Int, R = (if o.length < n then ([], 50) else (o, 0)) := ⟨_, rfl⟩
   have hRl : R.1.length ≤ 1000 := by
    rw [hR]
    split
    ·simp
    ·show o.length ≤ 1000; omega
   rw [← hR] at o2 o3
   refine Ev.step (f := fun k => wireloomlaw05_DigraphMatchesReference.j0 (k + 1) true false a b B N F L s) (fun k => rfl) ?_
   simp only [wireloomlaw05_DigraphMatchesReference.j0, Bool.false_eq_true, if_false]
   refine Ev.bind hmade ?_
   refine Ev.bind v1 (Ev.bind v2 ?_)
   simp only [bne_self_eq_false, Bool.false_eq_true, if_false]
   refine Ev.bind v3 ?_
   simp only [if_true, o3, Option.bind_some]
   refine Ev.bind o2 ?_
   refine Ev.bind (alike_evS hRl R.2) ?_
   simp only [if_true, c1, Option.bind_some]
   refine Ev.bind c2 ?_
   refine Ev.bind (alike_evS (show c.length ≤ 1000 by omega) ce) ?_
   simp only [if_true, d1, Option.bind_some]
   refine Ev.bind d2 ?_
   refine Ev.bind (alike_evS (show D.length ≤ 1000 by omega) de) ?_
   simp only [if_true, k1, Option.bind_some]
   refine Ev.bind k2 ?_
   simp only [if_true, r1, Option.bind_some]
   refine Ev.bind r2 ?_
   refine Ev.bind (same_evS hrl) ?_
   simp only [if_true, p2, Option.bind_some]
   refine Ev.bind p3 ?_
   refine Ev.bind (samelists_evS (show C.length ≤ 1000 by omega) (fun c hc => by have := q2 c hc; omega)) ?_
   exact Ev.now true
end Go.Proofs.Ytlldjinejckbaaa.PD

end
section
namespace Go.Proofs.Ytlldjinejckbaaa.Op
open Go Go.RowKit Go.Joins Go.ChangeShapes Go.WideShapes Go.Deep Go.Proofs.YtlldjinejckbaaaW.PrintWords Go.Proofs.Ytlldjinejckbaaa.PD
set_option linter.unusedVariables false
def Opens (P : Program) (t : TypeId) {α : Type} (d : Kd α) (wf : α → Prop) : Prop := ∀ (H : Type) (enc : TypeId × Value → H) (w : World) (spare : Nat → Bool) (held : Bool) (fuel : Nat) (cs : List Value) (x : DataW H × List MemPlace),
 DataW.trod enc P w 0 spare held fuel t cs = some x → ∃ a, d.K w a cs ∧ wf a
section
variable {P : Program} {t e : TypeId}
theorem opens_int {k : IntKind} (ht : P.underlying t = some (.int k)) : Opens P t (Kd.int k) (fun n => (Lit.int k n).wf = true) := fun H enc w spare held fuel cs x h => by
 obtain ⟨n, hc, _, hw⟩ := DataW.trod_int ht h
 exact ⟨n, hc, hw⟩
theorem opens_slice {α : Type} {d : Kd α} {wf : α → Prop} (ht : P.underlying t = some (.slice e)) (hc : P.cellsOf e = d.sz) (h : Opens P e d wf) : Opens P t (Kd.slice e d) (fun xs => ∀ x ∈ xs, wf x) := fun H enc w spare held fuel cs x hx => by
 rcases open_slice ht hx with ⟨rfl, _⟩ | ⟨a, len, cap, m, n, D, Pl, rfl, _, hl, hm, hmm, _, hel⟩
 ·exact ⟨[], ⟨none, 0, rfl, Nat.le_refl _, rfl, by simp, fun h => absurd h (by simp)⟩, fun x hx => by simp at hx⟩
 ·have hlm : len ≤ m := by rw [hmm]; split <;> omega
  have each : ∀ i, i < len → ∃ q : α, (∃ c, c.length = d.sz ∧ d.K w q c ∧ ∀ j u, c[j]? = some u → w.cell? (a.add (i * d.sz + j)) = some u) ∧ wf q := fun i hi => by
   obtain ⟨cs', h1, h2⟩ := hel i (by omega)
   obtain ⟨q, hq, hw⟩ := h H enc w spare held n cs' _ h2
   obtain ⟨_, hlen, hcell⟩ := World.cells?_some h1
   refine ⟨q, ⟨cs', by rw [hlen, hc], hq, fun j u hu => ?_⟩, hw⟩
   have hj : j < cs'.length := (List.getElem?_eq_some_iff.1 hu).1
   have := hcell j (by rw [← hlen]; exact hj)
   rw [Deep.add_add, hc] at this
   rw [this, hu]
  have all : ∀ k, k ≤ len → ∃ ps : List α, ps.length = k ∧ ∀ j p, ps[j]? = some p → (∃ c, c.length = d.sz ∧ d.K w p c ∧ ∀ i u, c[i]? = some u → w.cell? (a.add (j * d.sz + i)) = some u) ∧ wf p := by
   intro k
   induction k with
   | zero => intro _; exact ⟨[], rfl, fun j p h => by simp at h⟩
   | succ k ih =>
    intro hk
    obtain ⟨ps, hp, hps⟩ := ih (by omega)
    obtain ⟨q, hq⟩ := each k (by omega)
    refine ⟨ps ++ [q], by simp [hp], fun j p hj => ?_⟩
    rcases Nat.lt_or_ge j ps.length with h | h
    ·rw [List.getElem?_append_left h] at hj
     exact hps j p hj
    ·have hj2 := (List.getElem?_eq_some_iff.1 hj).1
     rw [List.length_append, List.length_singleton] at hj2
     obtain rfl : j = k := by omega
     rw [List.getElem?_append_right h, hp, Nat.sub_self] at hj
     obtain rfl : q = p := by simpa using hj
     exact hq
  obtain ⟨ps, hp, hps⟩ := all len (Nat.le_refl _)
  refine ⟨ps, ⟨some a, cap, by rw [hp], by rw [hp]; exact hl, hp.symm ▸ rfl, by unfold maxLen at hm; omega, fun _ => ⟨a, rfl, fun j p hj => (hps j p hj).1⟩⟩, fun x hx => ?_⟩
  obtain ⟨j, hj⟩ := List.mem_iff_getElem?.1 hx
  exact (hps j x hj).2
end
theorem list2 {α : Type} {l : List α} (h : l.length = 2) : ∃ a b, l = [a, b] := by
 match l, h with
 | [a, b], _ => exact ⟨a, b, rfl⟩
theorem get_some {α : Type} {o : Option α} {l : List α} {i n : Nat} (h : o = l[i]?) (hl : l.length = n) (hi : i < n) : ∃ y, o = some y := ⟨l[i]'(by omega), by rw [h, List.getElem?_eq_getElem (by omega)]⟩
set_option maxRecDepth 100000 in
theorem opens_edge : Opens Try.prog 55 k55 (fun e => (Lit.int .i64 e.f0).wf = true ∧ (Lit.int .i64 e.f1).wf = true) := fun H enc w spare held fuel cs x h => by
 obtain ⟨xs, n, _, _, hl, hx, hf⟩ := DataW.trod_struct Try.underlying55 h
 obtain ⟨c0, c1, rfl⟩ := list2 (hl.trans (show Try.prog.cellsOf 55 = 2 by kernel_rfl))
 obtain ⟨y0, h0⟩ := get_some (hf 0 _ rfl) hx (by decide)
 obtain ⟨y1, h1⟩ := get_some (hf 1 _ rfl) hx (by decide)
 have c3 : Try.prog.cellsOf 3 = 1 := by kernel_rfl
 obtain ⟨a, ha, hw⟩ := opens_int (P := Try.prog) Try.underlying3 H enc w spare held n _ _ h0
 obtain ⟨b, hb, hw'⟩ := opens_int (P := Try.prog) Try.underlying3 H enc w spare held n _ _ h1
 have ha2 : ([c0, c1].drop 0).take (Try.prog.cellsOf 3) = [.int .i64 a] := ha
 have hb2 : ([c0, c1].drop 1).take (Try.prog.cellsOf 3) = [.int .i64 b] := hb
 rw [c3] at ha2 hb2
 have ea : c0 = .int .i64 a := by injection ha2
 have eb : c1 = .int .i64 b := by injection hb2
 rw [ea, eb]
 exact ⟨⟨a, b⟩, k55_mk w ⟨a, b⟩, hw, hw'⟩
theorem open_row {α : Type} {d : Kd α} {wf : α → Prop} {t e : TypeId} (h : Opens Try.prog t (Kd.slice e d) (fun xs => ∀ x ∈ xs, wf x)) {H : Type} {enc : TypeId × Value → H} {w : World} {spare : Nat → Bool} {held : Bool} {fuel : Nat} {v : Value} {x : DataW H × List MemPlace}
  (hx : DataW.trod enc Try.prog w 0 spare held fuel t [v] = some x) : ∃ A c l, v = .slice A l.length c ∧ d.C w A l.length l ∧ l.length ≤ c ∧ ∀ x ∈ l, wf x := by
 obtain ⟨xs, ⟨A, c, he, hc, hr⟩, hw⟩ := h H enc w spare held fuel [v] x hx
 injection he with he _
 exact ⟨A, c, xs, he, hr, hc, hw⟩
theorem opens_u8s : Opens Try.prog 22 (Kd.slice 5 (Kd.int .u8)) (fun xs => ∀ x ∈ xs, (Lit.int .u8 x).wf = true) := opens_slice Try.underlying22 (by kernel_rfl) (opens_int Try.underlying5)
theorem opens_ints : Opens Try.prog 26 (Kd.slice 3 (Kd.int .i64)) (fun xs => ∀ x ∈ xs, (Lit.int .i64 x).wf = true) := opens_slice Try.underlying26 (by kernel_rfl) (opens_int Try.underlying3)
theorem opens_edges : Opens Try.prog 25 (Kd.slice 55 k55) (fun xs => ∀ e ∈ xs, (Lit.int .i64 e.f0).wf = true ∧ (Lit.int .i64 e.f1).wf = true) := opens_slice Try.underlying25 (by kernel_rfl) opens_edge
section
variable {H : Type} {enc : TypeId × Value → H} {w : World} {spare : Nat → Bool} {held : Bool} {r : Reach} {b0 : Nat} {v : Value} {d : DataW H} {p : List MemPlace}
set_option maxRecDepth 100000 in
theorem open_raw (hv : Value.okWide Try.prog w r b0 24 v) (h : DataW.Trod enc Try.prog w 0 spare held 24 v d p) : ∃ (a b : Int) (A : Option Addr) (c : Nat) (l : List Int), v = .agg #[.int .u8 a, .int .u8 b, .slice A l.length c] ∧ (0 ≤ a ∧ a ≤ 255) ∧ (0 ≤ b ∧ b ≤ 255) ∧ (∀ x ∈ l, 0 ≤ x ∧ x ≤ 255) ∧
  (Kd.int .u8).C w A l.length l ∧ l.length ≤ c := by
 obtain ⟨v0, v1, v2, y0, y1, y2, n, rfl, _, _, h0, h1, h2⟩ := open_agg3 Try.underlying24 (by kernel_rfl) (by kernel_rfl) hv h
 obtain ⟨a, ha, _, hw0⟩ := DataW.trod_int (k := .u8) Try.underlying5 h0
 obtain ⟨b, hb, _, hw1⟩ := DataW.trod_int (k := .u8) Try.underlying5 h1
 obtain ⟨A, c, l, rfl, hC, hl, hw⟩ := open_row opens_u8s h2
 have ea : v0 = .int .u8 a := by injection ha
 have eb : v1 = .int .u8 b := by injection hb
 rw [ea, eb]
 exact ⟨a, b, A, c, l, rfl, bounds_u8 hw0, bounds_u8 hw1, fun x hx => bounds_u8 (hw x hx), hC, hl⟩
set_option maxRecDepth 100000 in
theorem open_odd (hv : Value.okWide Try.prog w r b0 28 v) (h : DataW.Trod enc Try.prog w 0 spare held 28 v d p) : ∃ (n : Int) (A : Option Addr) (c : Nat) (l : List S55) (B : Option Addr) (e : Nat) (m : List Int) (s : Int), v = .agg #[.int .i64 n, .slice A l.length c, .slice B m.length e, .int .i64 s] ∧
  k55.C w A l.length l ∧ l.length ≤ c ∧ (Kd.int .i64).C w B m.length m ∧ m.length ≤ e := by
 obtain ⟨v0, v1, v2, v3, y0, y1, y2, y3, n, rfl, _, _, h0, h1, h2, h3⟩ := open_agg4 Try.underlying28 (by kernel_rfl) (by kernel_rfl) hv h
 obtain ⟨a, ha, _, _⟩ := DataW.trod_int (k := .i64) Try.underlying3 h0
 obtain ⟨b, hb, _, _⟩ := DataW.trod_int (k := .i64) Try.underlying3 h3
 obtain ⟨A, c, l, rfl, hC, hl, _⟩ := open_row opens_edges h1
 obtain ⟨B, e, m, rfl, hD, hm, _⟩ := open_row opens_ints h2
 have ea : v0 = .int .i64 a := by injection ha
 have eb : v3 = .int .i64 b := by injection hb
 rw [ea, eb]
 exact ⟨a, A, c, l, B, e, m, b, rfl, hC, hl, hD, hm⟩
end
end Go.Proofs.Ytlldjinejckbaaa.Op

end
section
namespace Go.Proofs.Ytlldjinejckbaaa.digraphMatchesReference
open Go.ChangeShapes Go.WideShapes Go.ChangeAt Go.RowKit Go.Proofs.Ytlldjinejckbaaa.Op
open Go.ChangeMaps (open_string shut_string)
set_option linter.unusedVariables false
theorem own : ownKnob Try.prog.godebug = none := by kernel_rfl
theorem laidOut : laidOutB Try.prog = true := by kernel_rfl
set_option maxRecDepth 100000 in
theorem lifted (os : Os) (started : os.Started) (H : Type) (enc : TypeId × Value → H) :
  ReturnsInHanded {} Try.checked os 3 .any (Rows.digraphMatchesReferenceSpec.pre6 enc Try.prog Try.f3 Rows.digraphMatchesReferenceRow.domain false) (Rows.digraphMatchesReferenceSpec.post enc Try.prog Try.f3 false true false false) := by
 refine returnsInHanded_of_change_sized (C := Try.checked) own started (by kernel_rfl) Try.func3
  (ChangeSpec.witness6 (enc := enc) (C := Try.checked) false ⟨#[], #[.agg #[.int .u8 0, .int .u8 0, .slice none 0 0], .agg #[.int .i64 0, .slice none 0 0, .slice none 0 0, .int .i64 0]], []⟩ 8 (by kernel_rfl) (by kernel_rfl) (by kernel_rfl) (by kernel_rfl)) ?_
 intro W base args ds gs before hval0 hW hcnd hsz0 _
 have hval : ∀ (j : Nat) t v, Try.f3.params[j]? = some t → args[j]? = some v → Value.okWide Try.prog W .any base t v := hval0
 have hW' := hW
 obtain ⟨p, q, hA0, hV, rfl, hfz, hnd⟩ := hW
 have hA : DataW.TrodAll enc Try.prog W 0 (fun _ => true) true Try.f3.params.toList args.toList ds p := hA0
 rw [Try.params3] at hA hval
 obtain ⟨v0, vs0, d0, ds0, p0, q0, hargs, rfl, rfl, h0, r0⟩ := trodAll_cons hA
 obtain ⟨v1, vs1, d1, ds1, p1, q1, rfl, rfl, rfl, h1, r1⟩ := trodAll_cons r0
 obtain ⟨rfl, rfl, rfl⟩ := trodAll_nil r1
 obtain rfl : args = #[v0, v1] := by cases args; simp_all
 obtain ⟨rfl, rfl⟩ := trodVars_none hV
 have lt0 : ∀ x ∈ p0, x.block < W.heap.size := by obtain ⟨m, hm⟩ := h0; exact DataW.trod_lt m _ _ _ hm
 obtain ⟨a0, b0, A0, c0, l0, rfl, ha0, hb0, hB0, hr0, hc0⟩ := open_raw (hval 0 24 v0 rfl rfl) h0
 have lt1 : ∀ x ∈ p1, x.block < W.heap.size := by obtain ⟨m, hm⟩ := h1; exact DataW.trod_lt m _ _ _ hm
 obtain ⟨n1, E1, e1, f1, B1, g1, m1, s1, rfl, hE1, he1, hm1, hg1⟩ := open_odd (hval 1 28 v1 rfl rfl) h1
 clear hA0 hval0 hsz0
 obtain ⟨k, hk⟩ := PD.matches_pure a0 b0 ha0.1 hb0.1 l0 hB0 n1 f1 m1 s1
 refine (PD.wireloomlaw05_DigraphMatchesReference.calls k a0 b0 A0 c0 l0 n1 E1 e1 f1 B1 g1 m1 s1 true W hr0 hc0 hE1 he1 hm1 hg1 hk).mono fun e W' ⟨he, bel⟩ => ?_
 subst he
 exact ⟨_, rfl, _, _, _, [], _, [], hW', trodAll_mk1 (shut_bool Try.underlying4 _), (trodAll_cons_mk (Below.trod laidOut (by kernel_rfl) (of_decide_eq_true (by kernel_rfl)) h0 bel lt0) (trodAll_cons_mk (Below.trod laidOut (by kernel_rfl) (of_decide_eq_true (by kernel_rfl)) h1 bel lt1) trodAll_mk0)), rfl, bel.frame _, fun h => by cases h⟩
theorem over : Rows.digraphMatchesReferenceRow.holds Try.pinned (OpenSpec.ofChange Rows.digraphMatchesReferenceSpec) :=
 OpenClaim.holds_of_wide 3 Try.f3 rfl rfl rfl rfl rfl rfl rfl ⟨rfl, rfl, rfl, rfl, rfl⟩ rfl rfl rfl rfl rfl (by kernel_rfl) Try.func3 (by kernel_rfl)
  (of_decide_eq_true (by kernel_rfl)) (by unfold Func.isWrapper; first | (rw [if_pos (by decide +kernel)]; kernel_rfl) | (rw [if_neg (by decide +kernel)]; exact ⟨rfl, rfl⟩))
  (fun os started H enc _ => lifted os started H enc)
theorem proved : Rows.DigraphMatchesReferenceSaid := over
end Go.Proofs.Ytlldjinejckbaaa.digraphMatchesReference
namespace Go.Proofs.Ytlldjinejckbaaa
theorem digraphMatchesReference_holds : Rows.DigraphMatchesReferenceSaid := digraphMatchesReference.proved
end Go.Proofs.Ytlldjinejckbaaa

end
