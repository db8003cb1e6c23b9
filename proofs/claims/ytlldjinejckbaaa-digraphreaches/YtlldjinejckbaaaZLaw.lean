/- The law DigraphReaches of package digraph holds for every input: what it is called with is opened, the printed text of the law and its plain proof are joined. (Part 6 of 6 of its proof.) -/
import Derived.Lib.SmallJoins
import Derived.Deep.Slices
import Derived.OpenShut
import Derived.WideKeyArr2
import Derived.Test.YtlldjinejckbaaaRows
import Derived.WalkKit
import Derived.ProofKit
import Derived.ShutString
import Derived.ChangeOld
import Derived.Below
import Derived.SizedLaws
import Derived.Test.YtlldjinejckbaaaZ04
section
namespace Go.Proofs.Ytlldjinejckbaaa.Pf
open Go Go.RowKit Go.Proofs.YtlldjinejckbaaaW.PrintWords Go.Proofs.Ytlldjinejckbaaa.Mod Go.Proofs.Ytlldjinejckbaaa.Pg Go.Proofs.Ytlldjinejckbaaa.Pb Go.Proofs.Ytlldjinejckbaaa.Gi Go.Proofs.Ytlldjinejckbaaa.Cl Go.Proofs.Ytlldjinejckbaaa.Cy Go.Proofs.Ytlldjinejckbaaa.PD Go.Proofs.Ytlldjinejckbaaa.Ng Go.Proofs.Ytlldjinejckbaaa.Lb
set_option linter.unusedVariables false
theorem bfs_spec {n : Nat} (hn : n ≤ 1000) {rows : List (List Int)} {R : Int → Int → Prop} (hT : Tells n rows R) {s : Int} : ∀ (k : Nat) (done far q : List Int), BI n R s done far q → n < k + done.length →
  (done ++ (bfs rows k far q).map (·.1)).Nodup ∧ (∀ x ∈ bfs rows k far q, ∃ d : Nat, x.2 = (d : Int) ∧ Dist R s x.1 d ∧ d < n ∧ 0 ≤ x.1 ∧ x.1 < n) ∧ (∀ (j : Nat) (v : Int), Pa R j s v → v ∈ done ++ (bfs rows k far q).map (·.1)) ∧
  (bfs rows k far q).Pairwise (fun a b => a.2 ≤ b.2) ∧ (∀ x ∈ bfs rows k far q, ∀ b ∈ q.head?, rd far b ≤ x.2 + 1)
 | 0, done, far, q, h, hk => by
  have h1 := nodup_len h.nd h.rng
  rw [List.length_append] at h1
  omega
 | k + 1, done, far, [], h, hk => by
  have e : bfs rows (k + 1) far [] = [] := rfl
  rw [e]
  have hst := h.st
  have hcl := h.cl
  have hnd := h.nd
  rw [List.append_nil] at hst hnd
  refine ⟨by simpa using hnd, fun x hx => by simp at hx, ?_, List.Pairwise.nil, fun x hx => by simp at hx⟩
  intro j
  rw [List.map_nil, List.append_nil]
  induction j with
  | zero => intro v hv; cases hv; exact hst
  | succ j ih => rintro v ⟨m, hm, hr⟩; simpa using hcl m (ih m hm) v hr
 | k + 1, done, far, v :: q, h, hk => by
  have hs := h.step hn hT
  obtain ⟨a, b, c, d, e⟩ := bfs_spec hn hT k _ _ _ hs (by rw [List.length_append]; simp only [List.length_cons, List.length_nil]; omega)
  have hvm : v ∈ done ++ v :: q := by simp
  obtain ⟨dv, e1, e2, e3⟩ := h.dist v hvm
  have hlen := nodup_len h.nd h.rng
  have hw : wrap64 (rd far v - 1) = (dv : Int) := by rw [Po.wrap_small (by omega) (by omega)]; omega
  show (done ++ (((v, wrap64 (rd far v - 1)) :: bfs rows k (relax v (row rows v) far q).1 (relax v (row rows v) far q).2) : List (Int × Int)).map (·.1)).Nodup ∧ (∀ x ∈ (((v, wrap64 (rd far v - 1)) :: bfs rows k (relax v (row rows v) far q).1 (relax v (row rows v) far q).2) : List (Int × Int)), _) ∧ (∀ (j : Nat) (w : Int), Pa R j s w → w ∈ done ++ (((v, wrap64 (rd far v - 1)) :: bfs rows k (relax v (row rows v) far q).1 (relax v (row rows v) far q).2) : List (Int × Int)).map (·.1)) ∧
   (((v, wrap64 (rd far v - 1)) :: bfs rows k (relax v (row rows v) far q).1 (relax v (row rows v) far q).2) : List (Int × Int)).Pairwise (fun a b => a.2 ≤ b.2) ∧ (∀ x ∈ (((v, wrap64 (rd far v - 1)) :: bfs rows k (relax v (row rows v) far q).1 (relax v (row rows v) far q).2) : List (Int × Int)), _)
  rw [hw]
  generalize hB : bfs rows k (relax v (row rows v) far q).1 (relax v (row rows v) far q).2 = B at a b c d e
  have e4 : done ++ List.map (·.1) ((v, (dv : Int)) :: B) = done ++ [v] ++ B.map (·.1) := by simp
  rw [e4]
  have hall : ∀ x ∈ B, rd far v ≤ x.2 + 1 := by
   intro x hx
   have hvd : v ∈ done ++ [v] := by simp
   have hv2 := hs.dist v (List.mem_append_left _ hvd)
   obtain ⟨d2, f1, f2, _⟩ := hv2
   have := f2.eq e2
   cases hq : (relax v (row rows v) far q).2 with
   | nil => rw [hq] at hB; cases k <;> (rw [← hB] at hx; simp [bfs] at hx)
   | cons z zs =>
    have h1 := e x hx z (by rw [hq]; simp)
    have h2 := hs.old v hvd z (by rw [hq]; simp)
    omega
  refine ⟨a, fun x hx => ?_, c, List.pairwise_cons.2 ⟨fun x hx => ?_, d⟩, fun x hx b hb => ?_⟩
  ·rcases List.mem_cons.1 hx with hx | hx
   ·subst hx; exact ⟨dv, rfl, e2, by omega, (h.rng v hvm).1, (h.rng v hvm).2⟩
   ·exact b x hx
  ·have := hall x hx
   show (dv : Int) ≤ x.2
   omega
  ·have hbv : b = v := by simpa using hb.symm
   subst hbv
   rcases List.mem_cons.1 hx with hx | hx
   ·subst hx; show _ ≤ (dv : Int) + 1; omega
   ·exact hall x hx
theorem BI.start {n : Nat} {R : Int → Int → Prop} {s : Int} (h0 : 0 ≤ s) (h1 : s < n) : BI n R s [] ((List.replicate n 0).set s.toNat 1) [s] := by
 have hr : ∀ x : Int, rd (List.replicate n 0) x = 0 := fun x => by unfold rd; rw [List.getD_eq_getElem?_getD]; cases h : (List.replicate n (0 : Int))[x.toNat]? with
  | none => rfl
  | some v => have := List.mem_of_getElem? h; simp at this; simp [this]
 have hs : rd ((List.replicate n 0).set s.toNat 1) s = 1 := rd_set_same _ _ _ h0 (by simpa using h1)
 have hD : Dist R s s 0 := ⟨rfl, fun k hk => by omega⟩
 refine ⟨by simp, by simp, fun v hv => by simp at hv; subst hv; exact ⟨h0, h1⟩, fun v v0 v1 => ?_, fun v hv => ?_, fun v hv => by simp at hv, by simp, by simp, fun a ha b hb => ?_, fun a ha => by simp at ha, fun b hb k x hp hk => ?_⟩
 ·by_cases e : v = s
  ·subst e; rw [hs]; simp
  ·rw [rd_set_other _ _ _ _ v0 h0 e, hr]; simp [e]
 ·have : v = s := by simpa using hv
  subst this
  exact ⟨0, by rw [hs]; rfl, hD, by simp⟩
 ·have : a = s := by simpa using ha
  subst this
  have : b = a := by simpa using hb.symm
  subst this
  omega
 ·have : b = s := by simpa using hb.symm
  subst this
  rw [hs] at hk
  have : k = 0 := by omega
  subst this
  cases hp
  simp
structure FromS (n : Nat) (R : Int → Int → Prop) (s : Int) (P : List (Int × Int)) : Prop where
 nd : (P.map (·.1)).Nodup
 dist : ∀ x ∈ P, ∃ d : Nat, x.2 = (d : Int) ∧ Dist R s x.1 d ∧ d < n ∧ 0 ≤ x.1 ∧ x.1 < n
 all : ∀ (j : Nat) (v : Int), Pa R j s v → v ∈ P.map (·.1)
 mono : P.Pairwise (fun a b => a.2 ≤ b.2)
theorem from_spec {n : Nat} (hn : n ≤ 1000) {rows : List (List Int)} {R : Int → Int → Prop} (hT : Tells n rows R) {s : Int} (h0 : 0 ≤ s) (h1 : s < n) : FromS n R s (fromOf rows s) := by
 unfold fromOf
 rw [hT.len]
 obtain ⟨a, b, c, d, e⟩ := bfs_spec hn hT (n + 1) [] _ _ (BI.start h0 h1) (by simp)
 exact ⟨by simpa using a, b, fun j v hp => by simpa using c j v hp, d⟩
theorem FromS.get {n : Nat} {R : Int → Int → Prop} {s : Int} {P : List (Int × Int)} (h : FromS n R s P) {v : Int} {d : Nat} (hd : Dist R s v d) : (v, (d : Int)) ∈ P := by
 obtain ⟨x, hx, e⟩ := List.mem_map.1 (h.all d v hd.1)
 obtain ⟨d', e1, e2, _⟩ := h.dist x hx
 rw [e] at e2
 have := e2.eq hd
 subst this
 rw [← e1, ← e]; exact hx
def Loop (R : Int → Int → Prop) (v : Int) (g : Nat) : Prop := 1 ≤ g ∧ Pa R g v v ∧ ∀ k, 1 ≤ k → k < g → ¬ Pa R k v v
structure Least (n : Nat) (R : Int → Int → Prop) (best first : Int) (k : Nat) : Prop where
 none_ : best = 0 → ∀ v : Int, 0 ≤ v → v < k → ∀ j, 1 ≤ j → ¬ Pa R j v v
 some_ : best ≠ 0 → ∃ g : Nat, best = (g : Int) ∧ g ≤ n ∧ 0 ≤ first ∧ first < k ∧ Loop R first g ∧ (∀ v : Int, 0 ≤ v → v < k → ∀ j, 1 ≤ j → j < g → ¬ Pa R j v v) ∧ ∀ v : Int, 0 ≤ v → v < first → ¬ Pa R g v v
structure CycS (n : Nat) (R : Int → Int → Prop) (out : List Int) : Prop where
 pos : 1 ≤ out.length
 le : out.length ≤ n
 rng : ∀ v ∈ out, 0 ≤ v ∧ v < n
 nd : out.Nodup
 least : ∀ v ∈ out, rd out 0 ≤ v
 next : ∀ i : Nat, i + 1 < out.length → R (rd out i) (rd out (i + 1 : Nat))
 close : R (rd out (out.length - 1 : Nat)) (rd out 0)
 short : ∀ v : Int, 0 ≤ v → v < n → ∀ j, 1 ≤ j → j < out.length → ¬ Pa R j v v
structure Part (R : Int → Int → Prop) (first : Int) (best : Nat) (out : List Int) : Prop where
 pos : 1 ≤ out.length
 le : out.length ≤ best
 head : rd out 0 = first
 dist : ∀ i : Nat, 1 ≤ i → i < out.length → Dist R (rd out i) first (best - i)
 next : ∀ i : Nat, i + 1 < out.length → R (rd out i) (rd out (i + 1 : Nat))
theorem mem_rd {l : List Int} {v : Int} (h : v ∈ l) : ∃ i : Nat, i < l.length ∧ rd l i = v := by
 obtain ⟨i, hi, e⟩ := List.getElem_of_mem h
 refine ⟨i, hi, ?_⟩
 unfold rd
 rw [List.getD_eq_getElem?_getD, Int.toNat_natCast, List.getElem?_eq_getElem hi]
 exact e
theorem Part.path {R : Int → Int → Prop} {first : Int} {best : Nat} {out : List Int} (h : Part R first best out) : ∀ i : Nat, i < out.length → Pa R i first (rd out i)
 | 0, _ => h.head.symm
 | i + 1, hi => ⟨_, h.path i (by omega), h.next i hi⟩
theorem Part.done {n : Nat} {R : Int → Int → Prop} {first : Int} {best : Nat} {out : List Int} (h : Part R first best out) (hb : out.length = best) (hbn : best ≤ n) (hL : Loop R first best) (hr : ∀ v ∈ out, 0 ≤ v ∧ v < (n : Int))
  (hs : ∀ v : Int, 0 ≤ v → v < n → ∀ j, 1 ≤ j → j < best → ¬ Pa R j v v) (hf : ∀ v : Int, 0 ≤ v → v < first → ¬ Pa R best v v) : CycS n R out := by
 have hd : ∀ i : Nat, i < out.length → ∃ k : Nat, Dist R (rd out i) first k ∧ k = (if i = 0 then 0 else best - i) := fun i hi => by
  by_cases e : i = 0
  ·subst e
   refine ⟨0, ⟨h.head, fun k hk => by omega⟩, by simp⟩
  ·exact ⟨best - i, h.dist i (by omega) hi, by rw [if_neg e]⟩
 refine ⟨h.pos, by omega, hr, ?_, fun v hv => ?_, h.next, ?_, fun v h0 h1 j hj hjb => hs v h0 h1 j hj (by omega)⟩
 ·rw [List.nodup_iff_pairwise_ne, List.pairwise_iff_getElem]
  intro i j hi hj hij e
  have ei : rd out i = out[i] := by unfold rd; rw [List.getD_eq_getElem?_getD, Int.toNat_natCast, List.getElem?_eq_getElem hi]; rfl
  have ej : rd out j = out[j] := by unfold rd; rw [List.getD_eq_getElem?_getD, Int.toNat_natCast, List.getElem?_eq_getElem hj]; rfl
  obtain ⟨a, ha, ka⟩ := hd i hi
  obtain ⟨b, hb2, kb⟩ := hd j hj
  rw [ei] at ha
  rw [ej, ← e] at hb2
  have := ha.eq hb2
  rw [if_neg (by omega)] at kb
  split at ka <;> omega
 ·obtain ⟨i, hi, e⟩ := mem_rd hv
  rw [h.head]
  refine Classical.byContradiction fun hlt => ?_
  have hi0 : i ≠ 0 := fun e0 => by subst e0; have := h.head; rw [← e] at hlt; simp [this] at hlt
  have h1 := h.dist i (by omega) hi
  rw [e] at h1
  have h2 := h.path i hi
  rw [e] at h2
  have h3 := h1.1.add h2
  rw [show best - i + i = best by omega] at h3
  exact hf v (hr v hv).1 (by omega) h3
 ·have hz : ((0 : Nat) : Int) = 0 := rfl
  by_cases e : out.length = 1
  ·rw [e]
   show R (rd out 0) (rd out 0)
   rw [h.head]
   have h2 := hL.2.1
   rw [← hb, e] at h2
   obtain ⟨m, hm, hr⟩ := h2
   cases hm; exact hr
  ·have hp := h.pos
   have h1 := h.dist (out.length - 1) (by omega) (by omega)
   rw [show best - (out.length - 1) = 1 by omega] at h1
   obtain ⟨m, hm, hr⟩ := h1.1
   cases hm
   rw [h.head]; exact hr
end Go.Proofs.Ytlldjinejckbaaa.Pf

end
section
namespace Go.Proofs.Ytlldjinejckbaaa.PD
open Go.RowKit Go.Proofs.YtlldjinejckbaaaW.PrintWords Go.Proofs.YtlldjinejckbaaaW.PrintLast Go.Proofs.YtlldjinejckbaaaW.PrintMore
attribute [local go_sem] max2_int min2_int max_two min_two max_three min_three max_four min_four
set_option linter.unusedVariables false
set_option linter.unusedSimpArgs false
def wireloomlaw05_edge.l0 : Nat → List (S55) → Int → Int → Int → Option (Bool)
 | 0, _, _, _, _ => none
 | k + 1, x0, x1, x2, x7 => if x7 < (x0.length : Int) then (if 0 ≤ x7 then (if ((rd_T55 x0 x7).f0) = x1 then (if ((rd_T55 x0 x7).f1) = x2 then (some true) else (wireloomlaw05_edge.l0 k x0 x1 x2 (wrap64 (x7 + 1)))) else (wireloomlaw05_edge.l0 k x0 x1 x2 (wrap64 (x7 + 1)))) else (none)) else (some false)
def wireloomlaw05_edge.f (k : Nat) (l0 : List (S55)) (a1 : Int) (a2 : Int) : Option (Bool) := wireloomlaw05_edge.l0 k l0 a1 a2 0
theorem wireloomlaw05_edge.mono_l : ∀ k, (∀ y0 y1 y2 y3, LeO (wireloomlaw05_edge.l0 k y0 y1 y2 y3) (wireloomlaw05_edge.l0 (k + 1) y0 y1 y2 y3))
 | 0 => fun _ _ _ _ r h => by simp [wireloomlaw05_edge.l0] at h
 | k + 1 => by
  have ih0 := wireloomlaw05_edge.mono_l k
  ·intro y0 y1 y2 y3
   unfold wireloomlaw05_edge.l0
   repeat' first
   | (with_reducible exact ih0 _ _ _ _)
   | (with_reducible exact LeO.refl _)
   | (with_reducible exact LeO.none _)
   | (with_reducible refine LeO.ite ?_ ?_)
   | (with_reducible refine LeO.bind ?_ (fun _ => ?_))
   | exact ih0 _ _ _ _
   | exact LeO.none _
   | refine LeO.ite ?_ ?_
   | refine LeO.bind ?_ (fun _ => ?_)
theorem wireloomlaw05_edge.mono : ∀ a0 a1 a2 k, LeO (wireloomlaw05_edge.f k a0 a1 a2) (wireloomlaw05_edge.f (k + 1) a0 a1 a2) := by
 intro a0 a1 a2 k
 have ih0 := wireloomlaw05_edge.mono_l k
 unfold wireloomlaw05_edge.f
 repeat' first
   | (with_reducible exact ih0 _ _ _ _)
   | (with_reducible exact LeO.refl _)
   | (with_reducible exact LeO.none _)
   | (with_reducible refine LeO.ite ?_ ?_)
   | (with_reducible refine LeO.bind ?_ (fun _ => ?_))
   | exact ih0 _ _ _ _
   | exact LeO.none _
   | refine LeO.ite ?_ ?_
   | refine LeO.bind ?_ (fun _ => ?_)
set_option maxHeartbeats 8000000 in
set_option maxRecDepth 100000 in
theorem wireloomlaw05_edge.calls (k : Nat) (A0 : Option Addr) (c0 : Nat) (l0 : List (S55)) (a1 : Int) (a2 : Int) (r : Bool) (w : World) (hr0 : Kd.C k55 w A0 l0.length l0) (hc0 : l0.length ≤ c0) (h : wireloomlaw05_edge.f k l0 a1 a2 = some r) :
  Calls Try.prog 29 #[.slice A0 l0.length c0, .int .i64 a1, .int .i64 a2] w fun e w' => e = .returned (.bool r) ∧ Drawn0 w w' := by
 have HR0 := Aside0.mk hr0
 have HC0 := Aside0.mk hc0
 clear hr0 hc0
 have H : (wireloomlaw05_edge.l0 k l0 a1 a2 0) = some r := h
 clear h
 have H' := Aside0.mk H
 clear H
 go_enter Try.func29, Try.ntmps29
 go_wp2
 go_loopg [7] k (fun kq v7 w' => ∃ (x7_1 : Int), v7 = .int .i64 x7_1 ∧ Aside0 (wireloomlaw05_edge.l0 kq l0 a1 a2 x7_1 = some r) ∧ Aside0 (kq ≤ k) ∧ Drawn0 w w')
 case atStart => exact ⟨(0), (by first | rfl | (simp; done) | (simp [*]; done)), H', ⟨Nat.le_refl _⟩, by repeat (first | exact Drawn0.refl _ | apply Drawn0.step)⟩
 case round =>
  clear H'
  try clear c2
  try clear p2
  obtain ⟨x7_1, rfl, HA, HK1, ⟨m1, rfl⟩⟩ := hrel
  cases gk with
  | zero => exact absurd HA.out (by simp [wireloomlaw05_edge.l0])
  | succ k1 =>
   have H := HA.out
   clear HA
   simp only [wireloomlaw05_edge.l0] at H
   by_cases c4 : x7_1 < (l0.length : Int)
   ·rw [if_pos c4] at H
    have c4b0 : decide (x7_1 < (l0.length : Int)) = true := decide_eq_true c4
    clear c4
    by_cases c5 : 0 ≤ x7_1
    ·rw [if_pos c5] at H
     have c5b0 : decide (0 ≤ x7_1) = true := decide_eq_true c5
     clear c5
     by_cases c6 : ((rd_T55 l0 x7_1).f0) = a1
     ·rw [if_pos c6] at H
      have c6b0 : (((rd_T55 l0 x7_1).f0) == a1) = true := beq_iff_eq.mpr c6
      have c6b1 : (((rd_T55 l0 x7_1).f0) != a1) = false := bne_eq_false_iff_eq.mpr c6
      clear c6
      by_cases c7 : ((rd_T55 l0 x7_1).f1) = a2
      ·rw [if_pos c7] at H
       have c7b0 : (((rd_T55 l0 x7_1).f1) == a2) = true := beq_iff_eq.mpr c7
       have c7b1 : (((rd_T55 l0 x7_1).f1) != a2) = false := bne_eq_false_iff_eq.mpr c7
       clear c7
       obtain rfl := Option.some.inj H
       have p455 : 0 ≤ (x7_1 : Int) := of_decide_eq_true (by first | (with_reducible assumption) | assumption)
       have q455 : x7_1 < (l0.length : Int) := of_decide_eq_true (by first | (with_reducible assumption) | assumption)
       obtain ⟨ad455, e455, hx455_0, hx455_1⟩ := at_T55 HR0.out x7_1 p455 q455
       cases e455
       replace p455 := eq_true p455
       replace q455 := eq_true q455
       have p456 : 0 ≤ (x7_1 : Int) := of_decide_eq_true (by first | (with_reducible assumption) | assumption)
       have q456 : x7_1 < (l0.length : Int) := of_decide_eq_true (by first | (with_reducible assumption) | assumption)
       obtain ⟨ad456, e456, hx456_0, hx456_1⟩ := at_T55 HR0.out x7_1 p456 q456
       obtain rfl : ad455 = ad456 := (by injection e456)
       replace p456 := eq_true p456
       replace q456 := eq_true q456
       go_wp2
       go_ret
       exact ⟨by first | rfl | (simp; done) | (simp [*]; done), by repeat (first | exact Drawn0.refl _ | apply Drawn0.step)⟩
      ·rw [if_neg c7] at H
       have c7b0 : (((rd_T55 l0 x7_1).f1) == a2) = false := beq_eq_false_iff_ne.mpr c7
       have c7b1 : (((rd_T55 l0 x7_1).f1) != a2) = true := bne_iff_ne.mpr c7
       have H' := Aside0.mk H
       clear H
       have p455 : 0 ≤ (x7_1 : Int) := of_decide_eq_true (by first | (with_reducible assumption) | assumption)
       have q455 : x7_1 < (l0.length : Int) := of_decide_eq_true (by first | (with_reducible assumption) | assumption)
       obtain ⟨ad455, e455, hx455_0, hx455_1⟩ := at_T55 HR0.out x7_1 p455 q455
       cases e455
       replace p455 := eq_true p455
       replace q455 := eq_true q455
       have p456 : 0 ≤ (x7_1 : Int) := of_decide_eq_true (by first | (with_reducible assumption) | assumption)
       have q456 : x7_1 < (l0.length : Int) := of_decide_eq_true (by first | (with_reducible assumption) | assumption)
       obtain ⟨ad456, e456, hx456_0, hx456_1⟩ := at_T55 HR0.out x7_1 p456 q456
       obtain rfl : ad455 = ad456 := (by injection e456)
       replace p456 := eq_true p456
       replace q456 := eq_true q456
       go_wp2
       go_roundg k1
       case measure => have := HK1.out; omega
       case rel => exact ⟨(wrap64 (x7_1 + 1)), (by first | rfl | (simp; done) | (simp [*]; done)), H', ⟨by have := HK1.out; omega⟩, by repeat (first | exact Drawn0.refl _ | apply Drawn0.step)⟩
     ·rw [if_neg c6] at H
      have c6b0 : (((rd_T55 l0 x7_1).f0) == a1) = false := beq_eq_false_iff_ne.mpr c6
      have c6b1 : (((rd_T55 l0 x7_1).f0) != a1) = true := bne_iff_ne.mpr c6
      have H' := Aside0.mk H
      clear H
      have p455 : 0 ≤ (x7_1 : Int) := of_decide_eq_true (by first | (with_reducible assumption) | assumption)
      have q455 : x7_1 < (l0.length : Int) := of_decide_eq_true (by first | (with_reducible assumption) | assumption)
      obtain ⟨ad455, e455, hx455_0, hx455_1⟩ := at_T55 HR0.out x7_1 p455 q455
      cases e455
      replace p455 := eq_true p455
      replace q455 := eq_true q455
      go_wp2
      go_roundg k1
      case measure => have := HK1.out; omega
      case rel => exact ⟨(wrap64 (x7_1 + 1)), (by first | rfl | (simp; done) | (simp [*]; done)), H', ⟨by have := HK1.out; omega⟩, by repeat (first | exact Drawn0.refl _ | apply Drawn0.step)⟩
    ·rw [if_neg c5] at H
     exact absurd H (by simp)
   ·rw [if_neg c4] at H
    have c4b0 : decide (x7_1 < (l0.length : Int)) = false := decide_eq_false c4
    clear c4
    obtain rfl := Option.some.inj H
    go_wp2
    go_ret
    exact ⟨by first | rfl | (simp; done) | (simp [*]; done), by repeat (first | exact Drawn0.refl _ | apply Drawn0.step)⟩
end Go.Proofs.Ytlldjinejckbaaa.PD

end
section
namespace Go.Proofs.Ytlldjinejckbaaa.PD
open Go.RowKit Go.Proofs.YtlldjinejckbaaaW.PrintWords Go.Proofs.YtlldjinejckbaaaW.PrintLast Go.Proofs.YtlldjinejckbaaaW.PrintMore
attribute [local go_sem] max2_int min2_int max_two min_two max_three min_three max_four min_four
set_option linter.unusedVariables false
set_option linter.unusedSimpArgs false
def wireloomlaw05_walk.l0 : Nat → List Bool → List Bool → Int → Int → List (S55) → Option (List Bool)
 | 0, _, _, _, _, _ => none
 | k + 1, x1, x5, x6, x500000, x500001 => if x6 < (x500001.length : Int) then (if 0 ≤ x6 then (if 0 ≤ ((rd_T55 x500001 x6).f0) then (if ((rd_T55 x500001 x6).f0) < (x1.length : Int) then (if rdOf false x1 ((rd_T55 x500001 x6).f0) = true then (if 0 ≤ ((rd_T55 x500001 x6).f1) then (if ((rd_T55 x500001 x6).f1) < (x5.length : Int) then (wireloomlaw05_walk.l0 k x1 (x5.set (((rd_T55 x500001 x6).f1) : Int).toNat true) (wrap64 (x6 + 1)) x500000 x500001) else (none)) else (none)) else (wireloomlaw05_walk.l0 k x1 x5 (wrap64 (x6 + 1)) x500000 x500001)) else (none)) else (none)) else (none)) else (some x5)
def wireloomlaw05_walk.f (k : Nat) (a0_0 : Int) (l0_1 : List (S55)) (l1 : List Bool) : Option (List Bool) := if 0 ≤ a0_0 then (if (a0_0 : Int).toNat ≤ 281474976710656 then (wireloomlaw05_walk.l0 k l1 (List.replicate (a0_0 : Int).toNat false) 0 a0_0 l0_1) else (none)) else (none)
theorem wireloomlaw05_walk.mono_l : ∀ k, (∀ y0 y1 y2 y3 y4, LeO (wireloomlaw05_walk.l0 k y0 y1 y2 y3 y4) (wireloomlaw05_walk.l0 (k + 1) y0 y1 y2 y3 y4))
 | 0 => fun _ _ _ _ _ r h => by simp [wireloomlaw05_walk.l0] at h
 | k + 1 => by
  have ih0 := wireloomlaw05_walk.mono_l k
  ·intro y0 y1 y2 y3 y4
   unfold wireloomlaw05_walk.l0
   repeat' first
   | (with_reducible exact ih0 _ _ _ _ _)
   | (with_reducible exact LeO.refl _)
   | (with_reducible exact LeO.none _)
   | (with_reducible refine LeO.ite ?_ ?_)
   | (with_reducible refine LeO.bind ?_ (fun _ => ?_))
   | exact ih0 _ _ _ _ _
   | exact LeO.none _
   | refine LeO.ite ?_ ?_
   | refine LeO.bind ?_ (fun _ => ?_)
theorem wireloomlaw05_walk.mono : ∀ a0 a1 a2 k, LeO (wireloomlaw05_walk.f k a0 a1 a2) (wireloomlaw05_walk.f (k + 1) a0 a1 a2) := by
 intro a0 a1 a2 k
 have ih0 := wireloomlaw05_walk.mono_l k
 unfold wireloomlaw05_walk.f
 repeat' first
   | (with_reducible exact ih0 _ _ _ _ _)
   | (with_reducible exact LeO.refl _)
   | (with_reducible exact LeO.none _)
   | (with_reducible refine LeO.ite ?_ ?_)
   | (with_reducible refine LeO.bind ?_ (fun _ => ?_))
   | exact ih0 _ _ _ _ _
   | exact LeO.none _
   | refine LeO.ite ?_ ?_
   | refine LeO.bind ?_ (fun _ => ?_)
set_option maxHeartbeats 8000000 in
set_option maxRecDepth 100000 in
theorem wireloomlaw05_walk.calls (k : Nat) (a0_0 : Int) (A0_1 : Option Addr) (c0_1 : Nat) (l0_1 : List (S55)) (A1 : Option Addr) (c1 : Nat) (l1 : List Bool) (r : List Bool) (w : World) (hr0_1 : Kd.C k55 w A0_1 l0_1.length l0_1) (hc0_1 : l0_1.length ≤ c0_1) (hr1 : Kd.C Kd.bool w A1 l1.length l1) (hc1 : l1.length ≤ c1) (h : wireloomlaw05_walk.f k a0_0 l0_1 l1 = some r) :
  Calls Try.prog 30 #[.agg #[.int .i64 a0_0, .slice A0_1 l0_1.length c0_1], .slice A1 l1.length c1] w fun e w' => ∃ v0_ : Value, e = .returned (v0_) ∧ Kd.R Kd.bool 4 w' w.heap.size (fun _ => True) v0_ r ∧ Below w.heap.size w w' := by
 have hu31 := Try.underlying31
 have HR0_1 := Aside0.mk hr0_1
 have HC0_1 := Aside0.mk hc0_1
 clear hr0_1 hc0_1
 have HR1 := Aside0.mk hr1
 have HC1 := Aside0.mk hc1
 clear hr1 hc1
 have HB := Aside0.mk (Below.refl w.heap.size w)
 have H : (if 0 ≤ a0_0 then (if (a0_0 : Int).toNat ≤ 281474976710656 then (wireloomlaw05_walk.l0 k l1 (List.replicate (a0_0 : Int).toNat false) 0 a0_0 l0_1) else (none)) else (none)) = some r := h
 clear h
 by_cases c3 : 0 ≤ a0_0
 ·rw [if_pos c3] at H
  have c3b0 := eq_true c3
  have c3b1 : decide (0 ≤ a0_0) = true := decide_eq_true c3
  clear c3
  by_cases c4 : (a0_0 : Int).toNat ≤ 281474976710656
  ·rw [if_pos c4] at H
   have c4b0 := eq_true c4
   have c4b1 : decide ((a0_0 : Int).toNat ≤ 281474976710656) = true := decide_eq_true c4
   clear c4
   obtain ⟨y500, hy500⟩ : ∃ y_ : List Bool, y_ = (List.replicate (a0_0 : Int).toNat false) := ⟨_, rfl⟩
   replace H : (wireloomlaw05_walk.l0 k l1 y500 0 a0_0 l0_1) = some r := by first | (rw [hy500]; with_reducible exact H) | (have H2_ := (Option.bind_some _ _).symm.trans H; rw [hy500]; with_reducible exact H2_) | (have H2_ := (Option.bind_some _ _).symm.trans H; with_reducible exact H2_) | with_reducible exact H | (rw [hy500]; exact H) | exact H
   have Ny500 := Aside0.mk hy500
   clear hy500
   have H' := Aside0.mk H
   clear H
   go_enter Try.func30, Try.ntmps30
   go_wp2_with (first | ((with_reducible refine gate_dst (N := 2) rfl ?_); refine box_event ?hg (N := 2) ?hd (cs := #[.int .i64 a0_0, .slice A0_1 l0_1.length c0_1]) (t := 31) ?hr ?_; (case hd => rfl); (case hg => rfl); (case hr => first | (go_simp; done) | (go_simp; rfl)); intro gb499 hg w5 hbox hb; have n0_ := Aside0.mk (below_step (by repeat (first | (with_reducible first | exact HB.out | apply below_alloc | apply pw_below_drewN | apply below_drew1) | exact HB.out)) hb); have n1_ := Aside0.mk (hbox); have n2_ := Aside0.mk ((by rw [hg]; exact (below_size (by repeat (first | (with_reducible first | exact HB.out | apply below_alloc | apply pw_below_drewN | apply below_drew1) | exact HB.out))) : w.heap.size ≤ gb499)); have n3_ := Aside0.mk ((by rw [hg]; exact (below_size (by repeat (first | (with_reducible first | exact HB.out | apply below_alloc | apply pw_below_drewN | apply below_drew1) | exact HB.out))) : w.heap.size ≤ gb499)); clear HB; have HB := n0_; have BK499 := n1_; have GW499 := n2_; have GE499 := n3_; clear n0_ n1_ n2_ n3_; clear hb hbox hg; have hcz6_0 : w5.cell? ⟨gb499, 0, none⟩ = some (.int .i64 a0_0) := (blk_cell BK499.out 0).trans rfl; have hcz6_1 : w5.cell? ⟨gb499, 1, none⟩ = some (.slice A0_1 l0_1.length c0_1) := (blk_cell BK499.out 1).trans rfl; have hfz6_0 := blk_frozen BK499.out 0; have hfz6_1 := blk_frozen BK499.out 1) | ((with_reducible refine gate_dst (N := 9) rfl ?_); refine Kd.R_make Kd.bool _ 4 rfl (N := 9) rfl 49 _ _ rfl a0_0 rfl rfl Try.underlying49 (.bool false) 1 info4 rfl (by decide) (by omega) false (ok := fun _ => True) (okp := fun _ => True) rfl (fun _ hk => hk) trivial (of_decide_eq_true (by first | (with_reducible assumption) | assumption)) (Nat.le_trans (Nat.mul_le_mul_right _ (of_decide_eq_true (by first | (with_reducible assumption) | assumption) : a0_0.toNat ≤ 281474976710656)) (by omega)) (Below.refl _ _) (Nat.le_refl _) ?_; intro v501 w7 ho8 hb hg_ hnew_; clear hg_ hnew_; (first | rw [← Ny500.out] at ho8 | (simp only [Int.reduceToNat] at ho8; rw [← Ny500.out] at ho8)); have n0_ := Aside0.mk (Kd.R_lower ho8 (below_size (by repeat (first | (with_reducible first | exact HB.out | apply below_alloc | apply pw_below_drewN | apply below_drew1 | refine below_set ?_ GE499.out) | exact HB.out)))); have n1_ := Aside0.mk (blk_below (g := gb499) (o := .cells #[.int .i64 a0_0, .slice A0_1 l0_1.length c0_1] 31 (0, 0)) (by (with_reducible repeat (first | refine blk_drewN ?_ _ | refine blk_drew ?_ | refine blk_alloc ?_ _)); exact BK499.out) hb); have n2_ := Aside0.mk (below_step (by repeat (first | (with_reducible first | exact HB.out | apply below_alloc | apply pw_below_drewN | apply below_drew1 | refine below_set ?_ GE499.out) | exact HB.out)) hb); clear BK499; clear HB; have HO502 := n0_; have BK499 := n1_; have HB := n2_; clear n0_ n1_ n2_; clear hb ho8))
   go_loopg [6] k (fun kq v6 w' => ∃ (x5_1 : List Bool) (x6_1 : Int), v6 = .int .i64 x6_1 ∧ Aside0 (wireloomlaw05_walk.l0 kq l1 x5_1 x6_1 a0_0 l0_1 = some r) ∧ Aside0 (kq ≤ k) ∧ Aside0 (Kd.R Kd.bool 4 w' w.heap.size (fun _ => True) v501 x5_1) ∧ Aside0 (w'.heap[gb499]? = some (.cells #[.int .i64 a0_0, (.slice A0_1 l0_1.length c0_1)] 31 (0, 0))) ∧ Aside0 (Below w.heap.size w w'))
   case atStart => exact ⟨(y500), (0), (by first | rfl | (simp; done) | (simp [*]; done)), H', ⟨Nat.le_refl _⟩, ⟨by (with_reducible repeat (first | apply Kd.R_alloc | apply Kd.R_drewN | apply Kd.R_drew)); exact HO502.out⟩, ⟨by (with_reducible repeat (first | refine blk_drewN ?_ _ | refine blk_drew ?_ | refine blk_alloc ?_ _)); exact BK499.out⟩, ⟨by repeat (first | (with_reducible first | exact HB.out | apply below_alloc | apply pw_below_drewN | apply below_drew1 | refine below_set ?_ GE499.out) | exact HB.out)⟩⟩
   case round =>
    clear H'
    try clear c1
    try clear p2
    try clear c3
    try clear c3b0
    try clear c3b1
    try clear c4
    try clear c4b0
    try clear c4b1
    try clear hcz6_0
    try clear hcz6_1
    try clear hfz6_0
    try clear hfz6_1
    obtain ⟨x5_1, x6_1, rfl, HA, HK1, HO_5, BK499, HB⟩ := hrel
    cases gk with
    | zero => exact absurd HA.out (by simp [wireloomlaw05_walk.l0])
    | succ k1 =>
     have H := HA.out
     clear HA
     simp only [wireloomlaw05_walk.l0] at H
     by_cases c9 : x6_1 < (l0_1.length : Int)
     ·rw [if_pos c9] at H
      have c9b0 : decide (x6_1 < (l0_1.length : Int)) = true := decide_eq_true c9
      clear c9
      by_cases c10 : 0 ≤ x6_1
      ·rw [if_pos c10] at H
       have c10b0 : decide (0 ≤ x6_1) = true := decide_eq_true c10
       clear c10
       by_cases c11 : 0 ≤ ((rd_T55 l0_1 x6_1).f0)
       ·rw [if_pos c11] at H
        have c11b0 : decide (0 ≤ ((rd_T55 l0_1 x6_1).f0)) = true := decide_eq_true c11
        clear c11
        by_cases c12 : ((rd_T55 l0_1 x6_1).f0) < (l1.length : Int)
        ·rw [if_pos c12] at H
         have c12b0 : decide (((rd_T55 l0_1 x6_1).f0) < (l1.length : Int)) = true := decide_eq_true c12
         clear c12
         obtain ⟨bq13, hbq13⟩ : ∃ b_ : Bool, b_ = (rdOf false l1 ((rd_T55 l0_1 x6_1).f0)) := ⟨_, rfl⟩
         replace H : (if bq13 = true then (if 0 ≤ ((rd_T55 l0_1 x6_1).f1) then (if ((rd_T55 l0_1 x6_1).f1) < (x5_1.length : Int) then (wireloomlaw05_walk.l0 k1 l1 (x5_1.set (((rd_T55 l0_1 x6_1).f1) : Int).toNat true) (wrap64 (x6_1 + 1)) a0_0 l0_1) else (none)) else (none)) else (wireloomlaw05_walk.l0 k1 l1 x5_1 (wrap64 (x6_1 + 1)) a0_0 l0_1)) = some r := by rw [← hbq13] at H; exact H
         have Nbq13 := Aside0.mk hbq13
         clear hbq13
         by_cases c14 : bq13 = true
         ·subst c14
          have H1 : (if 0 ≤ ((rd_T55 l0_1 x6_1).f1) then (if ((rd_T55 l0_1 x6_1).f1) < (x5_1.length : Int) then (wireloomlaw05_walk.l0 k1 l1 (x5_1.set (((rd_T55 l0_1 x6_1).f1) : Int).toNat true) (wrap64 (x6_1 + 1)) a0_0 l0_1) else (none)) else (none)) = some r := by rw [if_pos rfl] at H; exact H
          clear H
          have H := H1
          clear H1
          by_cases c15 : 0 ≤ ((rd_T55 l0_1 x6_1).f1)
          ·rw [if_pos c15] at H
           have c15b0 : decide (0 ≤ ((rd_T55 l0_1 x6_1).f1)) = true := decide_eq_true c15
           clear c15
           by_cases c16 : ((rd_T55 l0_1 x6_1).f1) < (x5_1.length : Int)
           ·rw [if_pos c16] at H
            have c16b0 : decide (((rd_T55 l0_1 x6_1).f1) < (x5_1.length : Int)) = true := decide_eq_true c16
            clear c16
            obtain ⟨y506, hy506⟩ : ∃ y_ : List Bool, y_ = (x5_1.set (((rd_T55 l0_1 x6_1).f1) : Int).toNat true) := ⟨_, rfl⟩
            replace H : (wireloomlaw05_walk.l0 k1 l1 y506 (wrap64 (x6_1 + 1)) a0_0 l0_1) = some r := by first | (rw [hy506]; with_reducible exact H) | (have H2_ := (Option.bind_some _ _).symm.trans H; rw [hy506]; with_reducible exact H2_) | (have H2_ := (Option.bind_some _ _).symm.trans H; with_reducible exact H2_) | with_reducible exact H | (rw [hy506]; exact H) | exact H
            have Ny506 := Aside0.mk hy506
            clear hy506
            have H' := Aside0.mk H
            clear H
            have hcz18_0 : wr.cell? ⟨gb499, 0, none⟩ = some (.int .i64 a0_0) := (blk_cell BK499.out 0).trans rfl
            have hcz18_1 : wr.cell? ⟨gb499, 1, none⟩ = some (.slice A0_1 l0_1.length c0_1) := (blk_cell BK499.out 1).trans rfl
            have hfz18_0 := blk_frozen BK499.out 0
            have hfz18_1 := blk_frozen BK499.out 1
            have p503 : 0 ≤ (x6_1 : Int) := of_decide_eq_true (by first | (with_reducible assumption) | assumption)
            have q503 : x6_1 < (l0_1.length : Int) := of_decide_eq_true (by first | (with_reducible assumption) | assumption)
            obtain ⟨ad503, e503, hx503_0, hx503_1⟩ := at_T55 HR0_1.out x6_1 p503 q503
            cases e503
            (try (replace hx503_0 := (HB.out.cell (World.block_lt_of_cell? w _ hx503_0)).trans hx503_0))
            (try (replace hx503_1 := (HB.out.cell (World.block_lt_of_cell? w _ hx503_1)).trans hx503_1))
            replace p503 := eq_true p503
            replace q503 := eq_true q503
            have p504 : 0 ≤ (((rd_T55 l0_1 x6_1).f0) : Int) := of_decide_eq_true (by first | (with_reducible assumption) | assumption)
            have q504 : ((rd_T55 l0_1 x6_1).f0) < (l1.length : Int) := of_decide_eq_true (by first | (with_reducible assumption) | assumption)
            obtain ⟨ad504, e504, hx504_0⟩ := Kd.at_bool HR1.out ((rd_T55 l0_1 x6_1).f0) p504 q504
            (try rw [← Nbq13.out] at hx504_0)
            cases e504
            (try (replace hx504_0 := (HB.out.cell (World.block_lt_of_cell? w _ hx504_0)).trans hx504_0))
            replace p504 := eq_true p504
            replace q504 := eq_true q504
            have p505 : 0 ≤ (x6_1 : Int) := of_decide_eq_true (by first | (with_reducible assumption) | assumption)
            have q505 : x6_1 < (l0_1.length : Int) := of_decide_eq_true (by first | (with_reducible assumption) | assumption)
            obtain ⟨ad505, e505, hx505_0, hx505_1⟩ := at_T55 HR0_1.out x6_1 p505 q505
            obtain rfl : ad503 = ad505 := (by injection e505)
            (try (replace hx505_0 := (HB.out.cell (World.block_lt_of_cell? w _ hx505_0)).trans hx505_0))
            (try (replace hx505_1 := (HB.out.cell (World.block_lt_of_cell? w _ hx505_1)).trans hx505_1))
            replace p505 := eq_true p505
            replace q505 := eq_true q505
            have p17 : 0 ≤ (((rd_T55 l0_1 x6_1).f1) : Int) := of_decide_eq_true (by first | (with_reducible assumption) | assumption)
            have q17 : (((rd_T55 l0_1 x6_1).f1) : Int) < ((x5_1.length : Int) : Int) := of_decide_eq_true (by first | (with_reducible assumption) | assumption)
            obtain ⟨go17, co17, eo17, gb17, gl17, cl17, HG17⟩ := Kd.R_form HO_5.out (by omega)
            (first | cases eo17 | (injection eo17 with ea_ en_ ec_; (first | subst ea_ | (injection ea_ with ea_; subst ea_)); subst ec_; clear en_))
            have GB17 := Aside0.mk gb17
            have GG17 := Aside0.mk HG17
            clear gb17 gl17 HG17
            obtain ⟨hx17_0, hf17_0⟩ := Kd.R_celln false HO_5.out (((rd_T55 l0_1 x6_1).f1) : Int) p17 q17
            replace p17 := eq_true p17
            replace q17 := eq_true q17
            have HP19 := Kd.R_putg HO_5.out (((rd_T55 l0_1 x6_1).f1) : Int) true
            go_wp2_with (first | ((with_reducible refine gate_store (t := 4) (p := 33) rfl ?_); refine store_event (t := 4) (p := 33) (v := ?vo_w20) (w1 := (wr.setCell ⟨go17, (((rd_T55 l0_1 x6_1).f1) : Int).toNat, none⟩ (.bool true))) ?hg ?ho ?hn ?hr ?_; (case ho => rfl); (case hg => rfl); (case hn => rfl); (case hr => first | (go_simp; done) | (go_simp; rfl)); intro w20 hw; have hg : wr.grownBy w20 (some go17) := (by rw [hw]; exact HP19.2); have hp_ : Kd.R Kd.bool 4 w20 w.heap.size (fun _ => True) (.slice (some ⟨go17, 0, none⟩) x5_1.length co17) y506 := (by rw [hw, Ny506.out]; exact HP19.1); clear HP19; have n0_ := Aside0.mk (hp_); have n1_ := Aside0.mk (blk_grown (g := gb499) (o := .cells #[.int .i64 a0_0, .slice (some ad503) l0_1.length c0_1] 31 (0, 0)) (by (with_reducible repeat (first | refine blk_drewN ?_ _ | refine blk_drew ?_ | refine blk_alloc ?_ _)); exact BK499.out) hg (Kd.R_ne HO_5.out BK499.out (by decide))); have n2_ := Aside0.mk ((by rw [hw]; exact below_set (HB.out) GB17.out : Below w.heap.size w w20)); clear HO_5; clear BK499; clear HB; have HO_5 := n0_; have BK499 := n1_; have HB := n2_; clear n0_ n1_ n2_; clear hg hw hp_))
            go_roundg k1
            case measure => have := HK1.out; omega
            case rel => exact ⟨(y506), (wrap64 (x6_1 + 1)), (by first | rfl | (simp; done) | (simp [*]; done)), H', ⟨by have := HK1.out; omega⟩, ⟨by (with_reducible repeat (first | apply Kd.R_alloc | apply Kd.R_drewN | apply Kd.R_drew)); exact HO_5.out⟩, ⟨by (with_reducible repeat (first | refine blk_drewN ?_ _ | refine blk_drew ?_ | refine blk_alloc ?_ _)); exact BK499.out⟩, ⟨by repeat (first | (with_reducible first | exact HB.out | apply below_alloc | apply pw_below_drewN | apply below_drew1 | refine below_set ?_ GE499.out) | exact HB.out)⟩⟩
           ·rw [if_neg c16] at H
            exact absurd H (by simp)
          ·rw [if_neg c15] at H
           exact absurd H (by simp)
         ·replace c14 := Bool.eq_false_iff.mpr c14
          subst c14
          have H1 : (wireloomlaw05_walk.l0 k1 l1 x5_1 (wrap64 (x6_1 + 1)) a0_0 l0_1) = some r := by rw [if_neg (show ¬ (false = true) by decide)] at H; exact H
          clear H
          have H := H1
          clear H1
          have H' := Aside0.mk H
          clear H
          have hcz21_0 : wr.cell? ⟨gb499, 0, none⟩ = some (.int .i64 a0_0) := (blk_cell BK499.out 0).trans rfl
          have hcz21_1 : wr.cell? ⟨gb499, 1, none⟩ = some (.slice A0_1 l0_1.length c0_1) := (blk_cell BK499.out 1).trans rfl
          have hfz21_0 := blk_frozen BK499.out 0
          have hfz21_1 := blk_frozen BK499.out 1
          have p503 : 0 ≤ (x6_1 : Int) := of_decide_eq_true (by first | (with_reducible assumption) | assumption)
          have q503 : x6_1 < (l0_1.length : Int) := of_decide_eq_true (by first | (with_reducible assumption) | assumption)
          obtain ⟨ad503, e503, hx503_0, hx503_1⟩ := at_T55 HR0_1.out x6_1 p503 q503
          cases e503
          (try (replace hx503_0 := (HB.out.cell (World.block_lt_of_cell? w _ hx503_0)).trans hx503_0))
          (try (replace hx503_1 := (HB.out.cell (World.block_lt_of_cell? w _ hx503_1)).trans hx503_1))
          replace p503 := eq_true p503
          replace q503 := eq_true q503
          have p504 : 0 ≤ (((rd_T55 l0_1 x6_1).f0) : Int) := of_decide_eq_true (by first | (with_reducible assumption) | assumption)
          have q504 : ((rd_T55 l0_1 x6_1).f0) < (l1.length : Int) := of_decide_eq_true (by first | (with_reducible assumption) | assumption)
          obtain ⟨ad504, e504, hx504_0⟩ := Kd.at_bool HR1.out ((rd_T55 l0_1 x6_1).f0) p504 q504
          (try rw [← Nbq13.out] at hx504_0)
          cases e504
          (try (replace hx504_0 := (HB.out.cell (World.block_lt_of_cell? w _ hx504_0)).trans hx504_0))
          replace p504 := eq_true p504
          replace q504 := eq_true q504
          go_wp2
          go_roundg k1
          case measure => have := HK1.out; omega
          case rel => exact ⟨(x5_1), (wrap64 (x6_1 + 1)), (by first | rfl | (simp; done) | (simp [*]; done)), H', ⟨by have := HK1.out; omega⟩, ⟨by (with_reducible repeat (first | apply Kd.R_alloc | apply Kd.R_drewN | apply Kd.R_drew)); exact HO_5.out⟩, ⟨by (with_reducible repeat (first | refine blk_drewN ?_ _ | refine blk_drew ?_ | refine blk_alloc ?_ _)); exact BK499.out⟩, ⟨by repeat (first | (with_reducible first | exact HB.out | apply below_alloc | apply pw_below_drewN | apply below_drew1 | refine below_set ?_ GE499.out) | exact HB.out)⟩⟩
        ·rw [if_neg c12] at H
         exact absurd H (by simp)
       ·rw [if_neg c11] at H
        exact absurd H (by simp)
      ·rw [if_neg c10] at H
       exact absurd H (by simp)
     ·rw [if_neg c9] at H
      have c9b0 : decide (x6_1 < (l0_1.length : Int)) = false := decide_eq_false c9
      clear c9
      obtain rfl := Option.some.inj H
      have hcz22_0 : wr.cell? ⟨gb499, 0, none⟩ = some (.int .i64 a0_0) := (blk_cell BK499.out 0).trans rfl
      have hcz22_1 : wr.cell? ⟨gb499, 1, none⟩ = some (.slice A0_1 l0_1.length c0_1) := (blk_cell BK499.out 1).trans rfl
      have hfz22_0 := blk_frozen BK499.out 0
      have hfz22_1 := blk_frozen BK499.out 1
      go_wp2
      go_ret
      exact ⟨_, by first | rfl | (simp [errW_none, errW_some] <;> rfl) | (simp [*, errW_none, errW_some] <;> rfl), by (with_reducible repeat (first | apply Kd.R_alloc | apply Kd.R_drewN | apply Kd.R_drew)); exact HO_5.out, by repeat (first | (with_reducible first | exact HB.out | apply below_alloc | apply pw_below_drewN | apply below_drew1 | refine below_set ?_ GE499.out) | exact HB.out)⟩
  ·rw [if_neg c4] at H
   exact absurd H (by simp)
 ·rw [if_neg c3] at H
  exact absurd H (by simp)
end Go.Proofs.Ytlldjinejckbaaa.PD

end
section
namespace Go.Proofs.Ytlldjinejckbaaa.PD
open Go Go.RowKit Go.Proofs.YtlldjinejckbaaaW.PrintWords Go.Proofs.YtlldjinejckbaaaW.PrintLast Go.Proofs.YtlldjinejckbaaaW.PrintMore
open Go.Proofs.Ytlldjinejckbaaa.Pg Go.Proofs.Ytlldjinejckbaaa.Pb
theorem ok_condW {n : Nat} (hn : n ≤ 12) {l : List S55} (hl : Ok n l) (hlen : l.length ≤ 1000) : 0 ≤ (n : Int) ∧ (n : Int) ≤ 1000 ∧ l.length ≤ 10000 ∧ ∀ e ∈ l, 0 ≤ e.f0 ∧ e.f0 < (n : Int) ∧ 0 ≤ e.f1 ∧ e.f1 < (n : Int) := ⟨by omega, by omega, by omega, hl⟩
theorem rdT_getW {l : List S55} {i : Nat} (h : i < l.length) : rd_T55 l (i : Int) = l[i] := by
 unfold rd_T55
 rw [Int.toNat_natCast, List.getD_eq_getElem?_getD, List.getElem?_eq_getElem h]
 rfl
theorem wrap_nextW {i : Nat} (h : i ≤ 100000) : wrap64 ((i : Int) + 1) = ((i + 1 : Nat) : Int) := by rw [wrap_ok (by omega) (by omega)]; omega
end Go.Proofs.Ytlldjinejckbaaa.PD

end
section
namespace Go.Proofs.Ytlldjinejckbaaa.PD
open Go Go.RowKit Go.Proofs.YtlldjinejckbaaaW.PrintWords Go.Proofs.YtlldjinejckbaaaW.PrintLast Go.Proofs.YtlldjinejckbaaaW.PrintMore
open Go.Proofs.Ytlldjinejckbaaa.Pg Go.Proofs.Ytlldjinejckbaaa.Pb Go.Proofs.Ytlldjinejckbaaa.Pf
theorem rd_getL {l : List Int} {i : Nat} (h : i < l.length) : rd l (i : Int) = l[i] := by
 unfold rd
 rw [List.getD_eq_getElem?_getD, Int.toNat_natCast, List.getElem?_eq_getElem h]
 rfl
theorem in_goL {l : List Int} (hlen : l.length ≤ 1000) (x : Int) : ∀ (d i : Nat), i + d = l.length → ∀ r : Bool, (r = true ↔ x ∈ l.drop i) → Ev (fun k => wireloomref05_In.l0 k l x i) r := by
 intro d
 induction d with
 | zero =>
  intro i hi r hr
  obtain rfl : i = l.length := by omega
  rw [List.drop_length] at hr
  have : r = false := by
   cases r
   ·rfl
   ·have := hr.1 rfl; simp at this
  subst this
  refine Ev.step (f := fun _ => some false) (fun k => ?_) (Ev.now _)
  simp only [wireloomref05_In.l0]
  rw [if_neg (by omega)]
 | succ d ih =>
  intro i hi r hr
  have hil : i < l.length := by omega
  have e : l.drop i = l[i] :: l.drop (i + 1) := List.drop_eq_getElem_cons hil
  by_cases hc : l[i] = x
  ·have : r = true := hr.2 (by rw [e, hc]; exact List.mem_cons_self)
   subst this
   refine Ev.step (f := fun _ => some true) (fun k => ?_) (Ev.now _)
   simp only [wireloomref05_In.l0]
   rw [if_pos (Int.ofNat_lt.2 hil), if_pos (Int.natCast_nonneg i), rd_getL hil, if_pos hc]
  ·refine Ev.step (fun k => ?_) (ih (i + 1) (by omega) r (by
    rw [hr, e, List.mem_cons]
    exact ⟨fun h => h.resolve_left (fun h => hc h.symm), .inr⟩))
   simp only [wireloomref05_In.l0]
   rw [if_pos (Int.ofNat_lt.2 hil), if_pos (Int.natCast_nonneg i), rd_getL hil, wrap_nextW (by omega), if_neg hc]
theorem in_ev {l : List Int} (hlen : l.length ≤ 1000) (x : Int) {r : Bool} (hr : r = true ↔ x ∈ l) : Ev (fun k => wireloomref05_In.f k l x) r := in_goL hlen x l.length 0 (by omega) r (by simpa using hr)
theorem with_at {l : List S55} (hlen : l.length ≤ 1000) (n u v : Int) : wireloomref05_With.f n l u v = some (n, l ++ [⟨u, v⟩]) := by
 unfold wireloomref05_With.f
 rw [Option.bind_some, List.nil_append, if_pos (by simp only [List.length_nil]; omega), Option.bind_some, Option.bind_some, if_pos (by simp only [List.length_cons, List.length_nil]; omega)]
structure ReachS (n : Nat) (l : List S55) (s : Int) (L : List Int) : Prop where
 lt : L.Pairwise (· < ·)
 mem : ∀ v, v ∈ L ↔ ∃ k, Pa (E l) k s v
 rng : ∀ v ∈ L, 0 ≤ v ∧ v < (n : Int)
 len : L.length ≤ n
theorem reach_spec {n : Nat} (hn : n ≤ 1000) {l : List S55} (hl : Ok n l) {s : Int} (h0 : 0 ≤ s) (h1 : s < n) : ReachS n l s (Rc.reachOf n l s) := by
 have hF := from_spec hn (tells_nx hl) h0 h1
 unfold Rc.reachOf
 rw [if_neg (by omega)]
 have hmem : ∀ v, v ∈ Lb.sortI ((Mod.fromOf (nx n l) s).map (·.1)) ↔ ∃ k, Pa (E l) k s v := fun v => by
  rw [Rc.mem_sortI]
  constructor
  ·intro h
   obtain ⟨x, hx, rfl⟩ := List.mem_map.1 h
   obtain ⟨d, _, hd, _⟩ := hF.dist x hx
   exact ⟨d, hd.1⟩
  ·rintro ⟨k, hk⟩; exact hF.all k v hk
 have hrng : ∀ v ∈ Lb.sortI ((Mod.fromOf (nx n l) s).map (·.1)), 0 ≤ v ∧ v < (n : Int) := fun v hv => by
  rw [Rc.mem_sortI] at hv
  obtain ⟨x, hx, rfl⟩ := List.mem_map.1 hv
  obtain ⟨d, _, _, _, a, b⟩ := hF.dist x hx
  exact ⟨a, b⟩
 have hnd : (Lb.sortI ((Mod.fromOf (nx n l) s).map (·.1))).Nodup := (List.mergeSort_perm _ _).nodup_iff.2 hF.nd
 refine ⟨?_, hmem, hrng, nodup_len hnd hrng⟩
 exact ((sortI_sorted _).and (List.nodup_iff_pairwise_ne.1 hnd)).imp (fun h => by have := h.1; have := h.2; omega)
theorem reach_atL {n : Nat} (hn : n ≤ 12) {l : List S55} (hl : Ok n l) (hlen : l.length ≤ 1000) (s : Int) : digraph_Reach.f n l s = some (Rc.reachOf n l s) := by
 unfold digraph_Reach.f
 rw [if_pos (ok_condW hn hl hlen), Int.toNat_natCast]
end Go.Proofs.Ytlldjinejckbaaa.PD

end
section
namespace Go.Proofs.Ytlldjinejckbaaa.PD
open Go Go.RowKit Go.Proofs.YtlldjinejckbaaaW.PrintWords Go.Proofs.YtlldjinejckbaaaW.PrintLast Go.Proofs.YtlldjinejckbaaaW.PrintMore
open Go.Proofs.Ytlldjinejckbaaa.Pg Go.Proofs.Ytlldjinejckbaaa.Pb Go.Proofs.Ytlldjinejckbaaa.Pf
def hasPred (L : List Int) (x : Int) (e : S55) : Bool := decide (e.f1 = x) && !decide (e.f0 = x) && decide (e.f0 ∈ L)
theorem rea_l1 {n : Nat} (hn : n ≤ 12) {l : List S55} (hl : Ok n l) (hlen : l.length ≤ 30) {v : Int} {L : List Int} (hL : ReachS n l v L) (i : Nat) (hi : i < L.length) {z0 z1 z2 : Int}
  (h : Ev (fun k => wireloomlaw05_DigraphReaches.l0 k true v L ((i + 1 : Nat) : Int) z0 z1 z2 n l) true) : ∀ (d j : Nat) (b : Bool), j + d = l.length → (b = true ∨ (l.drop j).any (hasPred L (rd L i)) = true) →
  Ev (fun k => wireloomlaw05_DigraphReaches.l1 k true v L i b j z0 z1 z2 n l) true := by
 have hLl := hL.len
 have hL1 : L.length ≤ 1000 := by omega
 have hxL : rd L (i : Int) ∈ L := by rw [rd_getL hi]; exact List.getElem_mem hi
 intro d
 induction d with
 | zero =>
  intro j b hj hb
  obtain rfl : j = l.length := by omega
  have hb : b = true := hb.resolve_right (fun h => by rw [List.drop_length] at h; simp at h)
  subst hb
  obtain ⟨r0, r1⟩ := hL.rng _ hxL
  refine Ev.step (fun k => ?_) h
  simp only [wireloomlaw05_DigraphReaches.l1]
  rw [if_neg (by omega), if_pos trivial]
  by_cases hi0 : 0 < i
  ·have hlt : ¬ rd L (wrap64 ((i : Int) - 1)) ≥ rd L (i : Int) := by
    rw [wrap_ok (by omega) (by omega), show (i : Int) - 1 = ((i - 1 : Nat) : Int) by omega, rd_getL (by omega), rd_getL hi]
    have := List.pairwise_iff_getElem.1 hL.lt (i - 1) i (by omega) hi (by omega)
    omega
   have hw : wrap64 ((i : Int) - 1) = (i : Int) - 1 := wrap_ok (by omega) (by omega)
   rw [if_pos (by omega), if_neg hlt, hw, if_pos (by omega), if_pos (by omega), if_pos (by omega), if_pos (by omega), if_neg (by omega), if_neg (by omega), wrap_nextW (by omega)]
  ·rw [if_neg (by omega), if_pos (by omega), if_pos (by omega), if_neg (by omega), if_neg (by omega), wrap_nextW (by omega)]
 | succ d ih =>
  intro j b hj hb
  have hjl : j < l.length := by omega
  have e : l.drop j = l[j] :: l.drop (j + 1) := List.drop_eq_getElem_cons hjl
  rw [e] at hb
  rw [List.any_cons, Bool.or_eq_true] at hb
  have hE : E l l[j].f0 l[j].f1 := ⟨l[j], List.getElem_mem hjl, rfl, rfl⟩
  by_cases h0 : l[j].f0 = rd L (i : Int)
  ·have hin : l[j].f1 ∈ L := by
    obtain ⟨k, hk⟩ := (hL.mem _).1 hxL
    exact (hL.mem _).2 ⟨k + 1, _, hk, h0 ▸ hE⟩
   have hnp : hasPred L (rd L (i : Int)) l[j] = false := by simp [hasPred, h0]
   have hb' : b = true ∨ (l.drop (j + 1)).any (hasPred L (rd L (i : Int))) = true := hb.imp id (fun h => h.resolve_left (by rw [hnp]; simp))
   refine Ev.step (f := fun k => (wireloomref05_In.f k L l[j].f1).bind fun t556 => if t556 = true then wireloomlaw05_DigraphReaches.l1 k true v L i b ((j + 1 : Nat) : Int) z0 z1 z2 n l else none) (fun k => ?_) (Ev.bind (in_ev hL1 l[j].f1 (r := true) ⟨fun _ => hin, fun _ => rfl⟩) (Ev.congr (fun k => if_pos rfl) (ih (j + 1) b (by omega) hb')))
   simp only [wireloomlaw05_DigraphReaches.l1]
   rw [if_pos (Int.ofNat_lt.2 hjl), if_pos (Int.natCast_nonneg j), if_pos (by omega), if_pos (by omega), rdT_getW hjl, if_pos h0, wrap_nextW (by omega)]
   cases b
   ·simp only [Bool.false_eq_true, if_false, ite_self]
   ·rfl
  ·cases b with
   | true =>
    refine Ev.step (fun k => ?_) (ih (j + 1) true (by omega) (.inl rfl))
    simp only [wireloomlaw05_DigraphReaches.l1]
    rw [if_pos (Int.ofNat_lt.2 hjl), if_pos (Int.natCast_nonneg j), if_pos (by omega), if_pos (by omega), rdT_getW hjl, if_neg h0, wrap_nextW (by omega)]
    rfl
   | false =>
    have hb := hb.resolve_left (by simp)
    by_cases h1 : l[j].f1 = rd L (i : Int)
    ·have hr : hasPred L (rd L (i : Int)) l[j] = decide (l[j].f0 ∈ L) := by simp [hasPred, h0, h1]
     rw [hr] at hb
     refine Ev.step (f := fun k => (wireloomref05_In.f k L l[j].f0).bind fun t566 => wireloomlaw05_DigraphReaches.l1 k true v L i t566 ((j + 1 : Nat) : Int) z0 z1 z2 n l) (fun k => ?_) (Ev.bind (in_ev hL1 l[j].f0 (r := decide (l[j].f0 ∈ L)) (by simp)) (ih (j + 1) _ (by omega) hb))
     simp only [wireloomlaw05_DigraphReaches.l1]
     rw [if_pos (Int.ofNat_lt.2 hjl), if_pos (Int.natCast_nonneg j), if_pos (by omega), if_pos (by omega), rdT_getW hjl, if_neg h0, wrap_nextW (by omega), if_neg (by decide), if_pos h1]
    ·have hnp : hasPred L (rd L (i : Int)) l[j] = false := by simp [hasPred, h1]
     refine Ev.step (fun k => ?_) (ih (j + 1) false (by omega) (.inr (hb.resolve_left (by rw [hnp]; simp))))
     simp only [wireloomlaw05_DigraphReaches.l1]
     rw [if_pos (Int.ofNat_lt.2 hjl), if_pos (Int.natCast_nonneg j), if_pos (by omega), if_pos (by omega), rdT_getW hjl, if_neg h0, wrap_nextW (by omega), if_neg (by decide), if_neg h1]
theorem rea_l3 {L M : List Int} (h1 : L.length ≤ 100) (h2 : M.length ≤ 100) (hs : ∀ x ∈ L, x ∈ M) : ∀ (d j : Nat), j + d = L.length → Ev (fun k => wireloomlaw05_DigraphReaches.l3 k true L M j) true := by
 intro d
 induction d with
 | zero =>
  intro j hj
  refine Ev.step (f := fun _ => some true) (fun k => ?_) (Ev.now _)
  simp only [wireloomlaw05_DigraphReaches.l3]
  rw [if_neg (by omega)]
 | succ d ih =>
  intro j hj
  have hm : rd L (j : Int) ∈ M := hs _ (by rw [rd_getL (by omega)]; exact List.getElem_mem _)
  refine Ev.step (f := fun k => (wireloomref05_In.f k M (rd L j)).bind fun t => if t = true then wireloomlaw05_DigraphReaches.l3 k true L M ((j + 1 : Nat) : Int) else none) (fun k => ?_) (Ev.bind (in_ev (by omega) _ (r := true) ⟨fun _ => hm, fun _ => rfl⟩) (Ev.congr (fun k => if_pos rfl) (ih (j + 1) (by omega))))
  simp only [wireloomlaw05_DigraphReaches.l3]
  rw [if_pos (by omega), if_pos (by omega), wrap_nextW (by omega)]
theorem rea_l2 {L M N : List Int} (h1 : L.length ≤ 100) (h2 : M.length ≤ 100) (h3 : N.length ≤ 100) (hs : ∀ x ∈ L, x ∈ M) (ht : ∀ x ∈ N, x ∈ L) : ∀ (d j : Nat), j + d = N.length → Ev (fun k => wireloomlaw05_DigraphReaches.l2 k true L N M j) true := by
 intro d
 induction d with
 | zero =>
  intro j hj
  refine Ev.step (fun k => ?_) (rea_l3 h1 h2 hs L.length 0 (by omega))
  simp only [wireloomlaw05_DigraphReaches.l2]
  rw [if_neg (by omega)]
  rfl
 | succ d ih =>
  intro j hj
  have hm : rd N (j : Int) ∈ L := ht _ (by rw [rd_getL (by omega)]; exact List.getElem_mem _)
  refine Ev.step (f := fun k => (wireloomref05_In.f k L (rd N j)).bind fun t => if t = true then wireloomlaw05_DigraphReaches.l2 k true L N M ((j + 1 : Nat) : Int) else none) (fun k => ?_) (Ev.bind (in_ev (by omega) _ (r := true) ⟨fun _ => hm, fun _ => rfl⟩) (Ev.congr (fun k => if_pos rfl) (ih (j + 1) (by omega))))
  simp only [wireloomlaw05_DigraphReaches.l2]
  rw [if_pos (by omega), if_pos (by omega), wrap_nextW (by omega)]
theorem tmod_small {z : Int} {n : Nat} (h0 : 0 ≤ z) (h1 : z ≤ 255) (hn : 0 < n) : 0 ≤ Int.tmod (wrap64 z) (n : Int) ∧ Int.tmod (wrap64 z) (n : Int) < (n : Int) := by
 rw [wrap_ok (by omega) (by omega), Int.tmod_eq_emod_of_nonneg h0]
 exact ⟨Int.emod_nonneg _ (by omega), Int.emod_lt_of_pos _ (by omega)⟩
theorem rea_l0 {n : Nat} (hn : n ≤ 12) {l : List S55} (hl : Ok n l) (hlen : l.length ≤ 30) {v : Int} (v0 : 0 ≤ v) (v1 : v < n) {L : List Int} (hLe : L = Rc.reachOf n l v) {z0 z1 z2 : Int} (y1 : 0 ≤ z1 ∧ z1 ≤ 255) (y2 : 0 ≤ z2 ∧ z2 ≤ 255) :
  ∀ (d i : Nat), i + d = L.length → Ev (fun k => wireloomlaw05_DigraphReaches.l0 k true v L i z0 z1 z2 n l) true := by
 have hL : ReachS n l v L := by rw [hLe]; exact reach_spec (by omega) hl v0 v1
 have hLl := hL.len
 have hvL : v ∈ L := (hL.mem v).2 ⟨0, rfl⟩
 have hpos : 0 < L.length := List.length_pos_of_mem hvL
 intro d
 induction d with
 | zero =>
  intro i hi
  obtain ⟨q0, q1⟩ := tmod_small y1.1 y1.2 hpos
  obtain ⟨q, hq⟩ : ∃ q : Nat, Int.tmod (wrap64 z1) (L.length : Int) = (q : Int) := ⟨(Int.tmod (wrap64 z1) (L.length : Int)).toNat, by omega⟩
  rw [hq] at q1
  have hw : rd L (q : Int) ∈ L := by rw [rd_getL (by omega)]; exact List.getElem_mem _
  obtain ⟨w0, w1⟩ := hL.rng _ hw
  have hM := reach_spec (n := n) (by omega) hl w0 w1
  have hn0 : 0 < n := by omega
  obtain ⟨a0, a1⟩ := tmod_small y1.1 y1.2 hn0
  obtain ⟨b0, b1⟩ := tmod_small y2.1 y2.2 hn0
  have hok : Ok n (l ++ [⟨Int.tmod (wrap64 z1) (n : Int), Int.tmod (wrap64 z2) (n : Int)⟩]) := ok_add hl a0 a1 b0 b1
  have hH := reach_spec (n := n) (by omega) hok v0 v1
  have hmono : ∀ (k : Nat) (x : Int), Pa (E l) k v x → Pa (E (l ++ [⟨Int.tmod (wrap64 z1) (n : Int), Int.tmod (wrap64 z2) (n : Int)⟩])) k v x := by
   intro k
   induction k with
   | zero => intro x hx; exact hx
   | succ k ih => rintro x ⟨m, hm, e, he, e0, e1⟩; exact ⟨m, ih m hm, e, List.mem_append_left _ he, e0, e1⟩
  have hMl := Nat.le_trans hM.len (show n ≤ 100 by omega)
  have hHl := Nat.le_trans hH.len (show n ≤ 100 by omega)
  have hLl' : L.length ≤ 100 := by omega
  have hs1 : ∀ x ∈ L, x ∈ Rc.reachOf n (l ++ [⟨Int.tmod (wrap64 z1) (n : Int), Int.tmod (wrap64 z2) (n : Int)⟩]) v := fun x hx => by
   obtain ⟨k, hk⟩ := (hL.mem x).1 hx
   exact (hH.mem x).2 ⟨k, hmono k x hk⟩
  have hs2 : ∀ x ∈ Rc.reachOf n l (rd L (q : Int)), x ∈ L := fun x hx => by
   obtain ⟨k, hk⟩ := (hM.mem x).1 hx
   obtain ⟨k', hk'⟩ := (hL.mem _).1 hw
   exact (hL.mem x).2 ⟨k' + k, hk'.add hk⟩
  have hr1 := reach_atL hn hl (by omega) (rd L (q : Int))
  have hr2 := reach_atL hn hok (by rw [List.length_append]; simp only [List.length_cons, List.length_nil]; omega) v
  clear hmono hM hH hok
  generalize Rc.reachOf n (l ++ [⟨Int.tmod (wrap64 z1) (n : Int), Int.tmod (wrap64 z2) (n : Int)⟩]) v = M at hHl hs1 hr2
  generalize Rc.reachOf n l (rd L (q : Int)) = N at hMl hs2 hr1
  have hfin := rea_l2 hLl' hHl hMl hs1 hs2 N.length 0 (by omega)
  refine Ev.step (fun k => ?_) hfin
  simp only [wireloomlaw05_DigraphReaches.l0]
  rw [if_neg (by omega), if_neg (by omega), hq, if_pos (by omega), if_pos q1, hr1, Option.bind_some, if_neg (by omega), with_at (by omega), Option.bind_some, hr2, Option.bind_some]
  rfl
 | succ d ih =>
  intro i hi
  have hil : i < L.length := by omega
  have hx : L[i] ∈ L := List.getElem_mem hil
  refine Ev.step (fun k => ?_) (rea_l1 hn hl hlen hL i hil (ih (i + 1) (by omega)) l.length 0 (rd L (i : Int) == v) (by omega) ?_)
  ·simp only [wireloomlaw05_DigraphReaches.l0]
   rw [if_pos (by omega), if_pos (by omega)]
   rfl
  ·by_cases hv : rd L (i : Int) = v
   ·exact .inl (by simp [hv])
   ·right
    rw [List.drop_zero, List.any_eq_true]
    have hF := from_spec (n := n) (by omega) (tells_nx hl) v0 v1
    obtain ⟨k, hk⟩ := (hL.mem _).1 hx
    obtain ⟨x, hxP, e⟩ := List.mem_map.1 (hF.all k _ hk)
    obtain ⟨dd, _, hdd, _⟩ := hF.dist x hxP
    rw [rd_getL hil] at hv
    rw [e] at hdd
    cases dd with
    | zero => exact absurd hdd.1.symm hv
    | succ dd =>
     obtain ⟨m, hm, ed, hed, e0, e1⟩ := hdd.prev
     refine ⟨ed, hed, ?_⟩
     have hne : ed.f0 ≠ L[i] := fun h => by
      rw [e0] at h; subst h
      have := hm.eq hdd
      omega
     have hmL : ed.f0 ∈ L := by rw [e0]; exact (hL.mem m).2 ⟨dd, hm.1⟩
     rw [rd_getL hil]
     simp [hasPred, e1, hne, hmL]
theorem reaches_pure (a b : Int) (ha : 0 ≤ a) (hb : 0 ≤ b) (B : List Int) (hB : ∀ x ∈ B, 0 ≤ x ∧ x ≤ 255) (z0 z1 z2 : Int) (y0 : 0 ≤ z0 ∧ z0 ≤ 255) (y1 : 0 ≤ z1 ∧ z1 ≤ 255) (y2 : 0 ≤ z2 ∧ z2 ≤ 255) : ∃ k, wireloomlaw05_DigraphReaches.f k a b B z0 z1 z2 = some true := by
 obtain ⟨n, l, hmade, hn, hl, hlen⟩ := made_spec a b ha hb hB
 refine Ev.rounds (g := fun k => wireloomlaw05_DigraphReaches.f k a b B z0 z1 z2) ?_
 unfold wireloomlaw05_DigraphReaches.f
 refine Ev.bind examples_ev ?_
 simp only [if_true]
 refine Ev.bind hmade ?_
 by_cases hn0 : n = 0
 ·subst hn0
  exact Ev.congr (fun k => if_pos rfl) (Ev.now true)
 ·obtain ⟨v0, v1⟩ := tmod_small y0.1 y0.2 (show 0 < n by omega)
  have hR := reach_spec (n := n) (by omega) hl v0 v1
  have hRl := Nat.le_trans hR.len (show n ≤ 1000 by omega)
  have hin : Int.tmod (wrap64 z0) (n : Int) ∈ Rc.reachOf n l (Int.tmod (wrap64 z0) (n : Int)) := (hR.mem _).2 ⟨0, rfl⟩
  have hfin := rea_l0 hn hl hlen v0 v1 rfl (z0 := z0) y1 y2 (Rc.reachOf n l (Int.tmod (wrap64 z0) (n : Int))).length 0 (by omega)
  refine Ev.congr (f := fun k => (wireloomref05_In.f k (Rc.reachOf n l (Int.tmod (wrap64 z0) (n : Int))) (Int.tmod (wrap64 z0) (n : Int))).bind fun t545 => if t545 = true then wireloomlaw05_DigraphReaches.l0 k true (Int.tmod (wrap64 z0) (n : Int)) (Rc.reachOf n l (Int.tmod (wrap64 z0) (n : Int))) ((0 : Nat) : Int) z0 z1 z2 n l else none) (fun k => ?_) (Ev.bind (in_ev hRl _ (r := true) ⟨fun _ => hin, fun _ => rfl⟩) (Ev.congr (fun k => if_pos rfl) hfin))
  rw [if_neg (by omega), reach_atL hn hl (by omega), Option.bind_some]
  rfl
end Go.Proofs.Ytlldjinejckbaaa.PD

end
section
namespace Go.Proofs.Ytlldjinejckbaaa.Op
open Go Go.RowKit Go.Joins Go.ChangeShapes Go.WideShapes Go.Deep Go.Proofs.YtlldjinejckbaaaW.PrintWords Go.Proofs.Ytlldjinejckbaaa.PD
set_option linter.unusedVariables false
def Opens (P : Program) (t : TypeId) {α : Type} (d : Kd α) (wf : α → Prop) : Prop := ∀ (H : Type) (enc : TypeId × Value → H) (w : World) (spare : Nat → Bool) (held : Bool) (fuel : Nat) (cs : List Value) (x : DataW H × List MemPlace),
 DataW.trod enc P w 0 spare held fuel t cs = some x → ∃ a, d.K w a cs ∧ wf a
section
variable {P : Program} {t e : TypeId}
theorem opens_int {k : IntKind} (ht : P.underlying t = some (.int k)) : Opens P t (Kd.int k) (fun n => (Lit.int k n).wf = true) := fun H enc w spare held fuel cs x h => by
 obtain ⟨n, hc, _, hw⟩ := DataW.trod_int ht h
 exact ⟨n, hc, hw⟩
theorem opens_slice {α : Type} {d : Kd α} {wf : α → Prop} (ht : P.underlying t = some (.slice e)) (hc : P.cellsOf e = d.sz) (h : Opens P e d wf) : Opens P t (Kd.slice e d) (fun xs => ∀ x ∈ xs, wf x) := fun H enc w spare held fuel cs x hx => by
 rcases open_slice ht hx with ⟨rfl, _⟩ | ⟨a, len, cap, m, n, D, Pl, rfl, _, hl, hm, hmm, _, hel⟩
 ·exact ⟨[], ⟨none, 0, rfl, Nat.le_refl _, rfl, by simp, fun h => absurd h (by simp)⟩, fun x hx => by simp at hx⟩
 ·have hlm : len ≤ m := by rw [hmm]; split <;> omega
  have each : ∀ i, i < len → ∃ q : α, (∃ c, c.length = d.sz ∧ d.K w q c ∧ ∀ j u, c[j]? = some u → w.cell? (a.add (i * d.sz + j)) = some u) ∧ wf q := fun i hi => by
   obtain ⟨cs', h1, h2⟩ := hel i (by omega)
   obtain ⟨q, hq, hw⟩ := h H enc w spare held n cs' _ h2
   obtain ⟨_, hlen, hcell⟩ := World.cells?_some h1
   refine ⟨q, ⟨cs', by rw [hlen, hc], hq, fun j u hu => ?_⟩, hw⟩
   have hj : j < cs'.length := (List.getElem?_eq_some_iff.1 hu).1
   have := hcell j (by rw [← hlen]; exact hj)
   rw [Deep.add_add, hc] at this
   rw [this, hu]
  have all : ∀ k, k ≤ len → ∃ ps : List α, ps.length = k ∧ ∀ j p, ps[j]? = some p → (∃ c, c.length = d.sz ∧ d.K w p c ∧ ∀ i u, c[i]? = some u → w.cell? (a.add (j * d.sz + i)) = some u) ∧ wf p := by
   intro k
   induction k with
   | zero => intro _; exact ⟨[], rfl, fun j p h => by simp at h⟩
   | succ k ih =>
    intro hk
    obtain ⟨ps, hp, hps⟩ := ih (by omega)
    obtain ⟨q, hq⟩ := each k (by omega)
    refine ⟨ps ++ [q], by simp [hp], fun j p hj => ?_⟩
    rcases Nat.lt_or_ge j ps.length with h | h
    ·rw [List.getElem?_append_left h] at hj
     exact hps j p hj
    ·have hj2 := (List.getElem?_eq_some_iff.1 hj).1
     rw [List.length_append, List.length_singleton] at hj2
     obtain rfl : j = k := by omega
     rw [List.getElem?_append_right h, hp, Nat.sub_self] at hj
     obtain rfl : q = p := by simpa using hj
     exact hq
  obtain ⟨ps, hp, hps⟩ := all len (Nat.le_refl _)
  refine ⟨ps, ⟨some a, cap, by rw [hp], by rw [hp]; exact hl, hp.symm ▸ rfl, by unfold maxLen at hm; omega, fun _ => ⟨a, rfl, fun j p hj => (hps j p hj).1⟩⟩, fun x hx => ?_⟩
  obtain ⟨j, hj⟩ := List.mem_iff_getElem?.1 hx
  exact (hps j x hj).2
end
theorem get_some {α : Type} {o : Option α} {l : List α} {i n : Nat} (h : o = l[i]?) (hl : l.length = n) (hi : i < n) : ∃ y, o = some y := ⟨l[i]'(by omega), by rw [h, List.getElem?_eq_getElem (by omega)]⟩
theorem open_row {α : Type} {d : Kd α} {wf : α → Prop} {t e : TypeId} (h : Opens Try.prog t (Kd.slice e d) (fun xs => ∀ x ∈ xs, wf x)) {H : Type} {enc : TypeId × Value → H} {w : World} {spare : Nat → Bool} {held : Bool} {fuel : Nat} {v : Value} {x : DataW H × List MemPlace}
  (hx : DataW.trod enc Try.prog w 0 spare held fuel t [v] = some x) : ∃ A c l, v = .slice A l.length c ∧ d.C w A l.length l ∧ l.length ≤ c ∧ ∀ x ∈ l, wf x := by
 obtain ⟨xs, ⟨A, c, he, hc, hr⟩, hw⟩ := h H enc w spare held fuel [v] x hx
 injection he with he _
 exact ⟨A, c, xs, he, hr, hc, hw⟩
theorem opens_u8s : Opens Try.prog 22 (Kd.slice 5 (Kd.int .u8)) (fun xs => ∀ x ∈ xs, (Lit.int .u8 x).wf = true) := opens_slice Try.underlying22 (by kernel_rfl) (opens_int Try.underlying5)
section
variable {H : Type} {enc : TypeId × Value → H} {w : World} {spare : Nat → Bool} {held : Bool} {r : Reach} {b0 : Nat} {v : Value} {d : DataW H} {p : List MemPlace}
set_option maxRecDepth 100000 in
theorem open_raw (hv : Value.okWide Try.prog w r b0 24 v) (h : DataW.Trod enc Try.prog w 0 spare held 24 v d p) : ∃ (a b : Int) (A : Option Addr) (c : Nat) (l : List Int), v = .agg #[.int .u8 a, .int .u8 b, .slice A l.length c] ∧ (0 ≤ a ∧ a ≤ 255) ∧ (0 ≤ b ∧ b ≤ 255) ∧ (∀ x ∈ l, 0 ≤ x ∧ x ≤ 255) ∧
  (Kd.int .u8).C w A l.length l ∧ l.length ≤ c := by
 obtain ⟨v0, v1, v2, y0, y1, y2, n, rfl, _, _, h0, h1, h2⟩ := open_agg3 Try.underlying24 (by kernel_rfl) (by kernel_rfl) hv h
 obtain ⟨a, ha, _, hw0⟩ := DataW.trod_int (k := .u8) Try.underlying5 h0
 obtain ⟨b, hb, _, hw1⟩ := DataW.trod_int (k := .u8) Try.underlying5 h1
 obtain ⟨A, c, l, rfl, hC, hl, hw⟩ := open_row opens_u8s h2
 have ea : v0 = .int .u8 a := by injection ha
 have eb : v1 = .int .u8 b := by injection hb
 rw [ea, eb]
 exact ⟨a, b, A, c, l, rfl, bounds_u8 hw0, bounds_u8 hw1, fun x hx => bounds_u8 (hw x hx), hC, hl⟩
theorem elem_u8 {fuel : Nat} {c : Value} {y : DataW H × List MemPlace} (h : DataW.trod enc Try.prog w 0 spare held fuel 5 [c] = some y) : ∃ a : Int, c = .int .u8 a ∧ 0 ≤ a ∧ a ≤ 255 := by
 obtain ⟨a, ha, _, hw⟩ := DataW.trod_int (k := .u8) Try.underlying5 h
 have e : c = .int .u8 a := by injection ha
 exact ⟨a, e, bounds_u8 hw⟩
set_option maxRecDepth 100000 in
theorem open_u8x3 {t : TypeId} (ht : Try.prog.underlying t = some (.array 3 5)) (hC : Try.prog.cellsOf t = 3) (hv : Value.okWide Try.prog w r b0 t v) (h : DataW.Trod enc Try.prog w 0 spare held t v d p) :
  ∃ a b c : Int, v = .agg #[.int .u8 a, .int .u8 b, .int .u8 c] ∧ (0 ≤ a ∧ a ≤ 255) ∧ (0 ≤ b ∧ b ≤ 255) ∧ (0 ≤ c ∧ c ≤ 255) := by
 simp only [Value.okWide, ht] at hv
 obtain ⟨cs, rfl, h2, _⟩ := hv
 obtain ⟨c0, c1, c2, rfl⟩ := array3 (h2.trans hC)
 obtain ⟨fuel, hf⟩ := h
 obtain ⟨xs, m, _, _, _, hx, hi⟩ := DataW.trod_array ht hf
 have c5 : Try.prog.cellsOf 5 = 1 := by kernel_rfl
 rw [c5] at hi
 obtain ⟨y0, e0⟩ := get_some (hi 0 (by decide)) hx (by decide)
 obtain ⟨y1, e1⟩ := get_some (hi 1 (by decide)) hx (by decide)
 obtain ⟨y2, e2⟩ := get_some (hi 2 (by decide)) hx (by decide)
 obtain ⟨a, rfl, ha⟩ := elem_u8 (c := c0) e0
 obtain ⟨b, rfl, hb⟩ := elem_u8 (c := c1) e1
 obtain ⟨c, rfl, hc⟩ := elem_u8 (c := c2) e2
 exact ⟨a, b, c, rfl, ha, hb, hc⟩
end
end Go.Proofs.Ytlldjinejckbaaa.Op

end
section
namespace Go.Proofs.Ytlldjinejckbaaa.digraphReaches
open Go.ChangeShapes Go.WideShapes Go.ChangeAt Go.RowKit Go.Proofs.Ytlldjinejckbaaa.Op
open Go.ChangeMaps (open_string shut_string)
set_option linter.unusedVariables false
theorem own : ownKnob Try.prog.godebug = none := by kernel_rfl
theorem laidOut : laidOutB Try.prog = true := by kernel_rfl
set_option maxRecDepth 100000 in
theorem lifted (os : Os) (started : os.Started) (H : Type) (enc : TypeId × Value → H) :
  ReturnsInHanded {} Try.checked os 6 .any (Rows.digraphReachesSpec.pre6 enc Try.prog Try.f6 Rows.digraphReachesRow.domain false) (Rows.digraphReachesSpec.post enc Try.prog Try.f6 false true false false) := by
 refine returnsInHanded_of_change_sized (C := Try.checked) own started (by kernel_rfl) Try.func6
  (ChangeSpec.witness6 (enc := enc) (C := Try.checked) false ⟨#[], #[.agg #[.int .u8 0, .int .u8 0, .slice none 0 0], .agg #[.int .u8 0, .int .u8 0, .int .u8 0]], []⟩ 8 (by kernel_rfl) (by kernel_rfl) (by kernel_rfl) (by kernel_rfl)) ?_
 intro W base args ds gs before hval0 hW hcnd hsz0 _
 have hval : ∀ (j : Nat) t v, Try.f6.params[j]? = some t → args[j]? = some v → Value.okWide Try.prog W .any base t v := hval0
 have hW' := hW
 obtain ⟨p, q, hA0, hV, rfl, hfz, hnd⟩ := hW
 have hA : DataW.TrodAll enc Try.prog W 0 (fun _ => true) true Try.f6.params.toList args.toList ds p := hA0
 rw [Try.params6] at hA hval
 obtain ⟨v0, vs0, d0, ds0, p0, q0, hargs, rfl, rfl, h0, r0⟩ := trodAll_cons hA
 obtain ⟨v1, vs1, d1, ds1, p1, q1, rfl, rfl, rfl, h1, r1⟩ := trodAll_cons r0
 obtain ⟨rfl, rfl, rfl⟩ := trodAll_nil r1
 obtain rfl : args = #[v0, v1] := by cases args; simp_all
 obtain ⟨rfl, rfl⟩ := trodVars_none hV
 have lt0 : ∀ x ∈ p0, x.block < W.heap.size := by obtain ⟨m, hm⟩ := h0; exact DataW.trod_lt m _ _ _ hm
 obtain ⟨a0, b0, A0, c0, l0, rfl, ha0, hb0, hB0, hr0, hc0⟩ := open_raw (hval 0 24 v0 rfl rfl) h0
 have lt1 : ∀ x ∈ p1, x.block < W.heap.size := by obtain ⟨m, hm⟩ := h1; exact DataW.trod_lt m _ _ _ hm
 obtain ⟨z1_0, z1_1, z1_2, rfl, hz1_0, hz1_1, hz1_2⟩ := open_u8x3 Try.underlying52 (by kernel_rfl) (hval 1 52 v1 rfl rfl) h1
 clear hA0 hval0 hsz0
 obtain ⟨k, hk⟩ := PD.reaches_pure a0 b0 ha0.1 hb0.1 l0 hB0 z1_0 z1_1 z1_2 hz1_0 hz1_1 hz1_2
 refine (PD.wireloomlaw05_DigraphReaches.calls k a0 b0 A0 c0 l0 z1_0 z1_1 z1_2 true W hr0 hc0 hk).mono fun e W' ⟨he, bel⟩ => ?_
 subst he
 exact ⟨_, rfl, _, _, _, [], _, [], hW', trodAll_mk1 (shut_bool Try.underlying4 _), (trodAll_cons_mk (Below.trod laidOut (by kernel_rfl) (of_decide_eq_true (by kernel_rfl)) h0 bel lt0) (trodAll_cons_mk (Below.trod laidOut (by kernel_rfl) (of_decide_eq_true (by kernel_rfl)) h1 bel lt1) trodAll_mk0)), rfl, bel.frame _, fun h => by cases h⟩
theorem over : Rows.digraphReachesRow.holds Try.pinned (OpenSpec.ofChange Rows.digraphReachesSpec) :=
 OpenClaim.holds_of_wide 6 Try.f6 rfl rfl rfl rfl rfl rfl rfl ⟨rfl, rfl, rfl, rfl, rfl⟩ rfl rfl rfl rfl rfl (by kernel_rfl) Try.func6 (by kernel_rfl)
  (of_decide_eq_true (by kernel_rfl)) (by unfold Func.isWrapper; first | (rw [if_pos (by decide +kernel)]; kernel_rfl) | (rw [if_neg (by decide +kernel)]; exact ⟨rfl, rfl⟩))
  (fun os started H enc _ => lifted os started H enc)
theorem proved : Rows.DigraphReachesSaid := over
end Go.Proofs.Ytlldjinejckbaaa.digraphReaches
namespace Go.Proofs.Ytlldjinejckbaaa
theorem digraphReaches_holds : Rows.DigraphReachesSaid := digraphReaches.proved
end Go.Proofs.Ytlldjinejckbaaa

end
