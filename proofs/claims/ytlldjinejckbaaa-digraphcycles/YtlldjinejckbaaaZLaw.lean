/- The law DigraphCycles of package digraph holds for every input: what it is called with is opened, the printed text of the law and its plain proof are joined. (Part 6 of 6 of its proof.) -/
import Derived.Lib.SmallJoins
import Derived.Deep.Slices
import Derived.OpenShut
import Derived.WideKeyArr2
import Derived.Test.YtlldjinejckbaaaRows
import Derived.WalkKit
import Derived.ProofKit
import Derived.ShutString
import Derived.ChangeOld
import Derived.Below
import Derived.SizedLaws
import Derived.Test.YtlldjinejckbaaaZ04
section
namespace Go.Proofs.Ytlldjinejckbaaa.Po
open Go Go.RowKit Go.Proofs.YtlldjinejckbaaaW.PrintWords Go.Proofs.Ytlldjinejckbaaa.Mod Go.Proofs.Ytlldjinejckbaaa.Lb Go.Proofs.Ytlldjinejckbaaa.Ng Go.Proofs.Ytlldjinejckbaaa.Rc Go.Proofs.Ytlldjinejckbaaa.PD Go.Proofs.Ytlldjinejckbaaa.Pg Go.Proofs.Ytlldjinejckbaaa.Od Go.Proofs.Ytlldjinejckbaaa.Ins
def Avail (n : Nat) (l : List S55) (out : List Int) (v : Int) : Prop := 0 ≤ v ∧ v < n ∧ v ∉ out ∧ ∀ u, E l u v → u ∈ out
def Greedy (n : Nat) (l : List S55) (out : List Int) : Prop := ∀ k : Nat, k < out.length → Avail n l (out.take k) (rd out k) ∧ ∀ u, Avail n l (out.take k) u → rd out k ≤ u
theorem rd_get {l : List Int} {k : Nat} (h : k < l.length) : rd l (k : Int) = l[k] := by
  unfold rd
  rw [Int.toNat_natCast, List.getD_eq_getElem?_getD, List.getElem?_eq_getElem h]
  rfl
theorem Greedy.nil (n : Nat) (l : List S55) : Greedy n l [] := fun k hk => absurd hk (Nat.not_lt_zero k)
theorem Greedy.snoc {n : Nat} {l : List S55} {out : List Int} (h : Greedy n l out) {v : Int} (ha : Avail n l out v) (hm : ∀ u, Avail n l out u → v ≤ u) : Greedy n l (out ++ [v]) := by
  intro k hk
  rw [List.length_append, List.length_singleton] at hk
  rcases Nat.lt_or_eq_of_le (Nat.le_of_lt_succ hk) with hk | hk
  · have e1 : (out ++ [v]).take k = out.take k := by rw [List.take_append_of_le_length (Nat.le_of_lt hk)]
    have e2 : rd (out ++ [v]) (k : Int) = rd out (k : Int) := by rw [rd_get hk, rd_get (by simp; omega), List.getElem_append_left hk]
    rw [e1, e2]; exact h k hk
  · subst hk
    have e1 : (out ++ [v]).take out.length = out := by simp
    have e2 : rd (out ++ [v]) (out.length : Int) = v := by rw [rd_get (by simp)]; simp
    rw [e1, e2]; exact ⟨ha, hm⟩
theorem Greedy.range {n : Nat} {l : List S55} {out : List Int} (h : Greedy n l out) : ∀ v ∈ out, 0 ≤ v ∧ v < (n : Int) := by
  intro v hv
  obtain ⟨k, hk, rfl⟩ := List.mem_iff_getElem.1 hv
  have := (h k hk).1
  rw [rd_get hk] at this
  exact ⟨this.1, this.2.1⟩
theorem Greedy.nodup {n : Nat} {l : List S55} {out : List Int} (h : Greedy n l out) : out.Nodup := by
  rw [List.nodup_iff_pairwise_ne, List.pairwise_iff_getElem]
  intro i j hi hj hij e
  have h2 := (h j hj).1.2.2.1
  rw [rd_get hj] at h2
  apply h2
  rw [List.mem_iff_getElem]
  exact ⟨i, by rw [List.length_take]; omega, by rw [List.getElem_take]; exact e⟩
theorem Greedy.before {n : Nat} {l : List S55} {out : List Int} (h : Greedy n l out) {k : Nat} (hk : k < out.length) {u : Int} (he : E l u (rd out k)) : u ∈ out.take k := (h k hk).1.2.2.2 u he
theorem Greedy.closed {n : Nat} {l : List S55} {out : List Int} (h : Greedy n l out) {u v : Int} (hv : v ∈ out) (he : E l u v) : u ∈ out := by
  obtain ⟨k, hk, rfl⟩ := List.mem_iff_getElem.1 hv
  rw [← rd_get hk] at he
  exact List.mem_of_mem_take (h.before hk he)
theorem Greedy.len {n : Nat} {l : List S55} {out : List Int} (h : Greedy n l out) : out.length ≤ n := nodup_len h.nodup h.range
theorem insert_strict (r : List Int) (x : Int) (h : r.Pairwise (· < ·)) (hx : x ∉ r) : (insertAt r (r.countP (· < x)) x).Pairwise (· < ·) ∧ ∀ y, y ∈ insertAt r (r.countP (· < x)) x ↔ y = x ∨ y ∈ r := by
  have hle := insert_sorted r x (h.imp (fun h => by omega))
  have hp : (insertAt r (r.countP (· < x)) x).Perm (x :: r) := by
    unfold insertAt
    have := List.perm_middle (a := x) (l₁ := r.take (r.countP (· < x))) (l₂ := r.drop (r.countP (· < x)))
    rwa [List.take_append_drop] at this
  have hn : (insertAt r (r.countP (· < x)) x).Nodup := hp.nodup_iff.2 (List.nodup_cons.2 ⟨hx, h.imp (fun h => by omega)⟩)
  refine ⟨?_, fun y => by rw [hp.mem_iff, List.mem_cons]⟩
  rw [List.pairwise_iff_getElem] at hle ⊢
  intro i j hi hj hij
  have h1 := hle i j hi hj hij
  have h2 := List.pairwise_iff_getElem.1 (List.nodup_iff_pairwise_ne.1 hn) i j hi hj hij
  omega
theorem wrap_small {x : Int} (h0 : -1000000 ≤ x) (h1 : x ≤ 1000000) : wrap64 x = x := by unfold wrap64; omega
theorem takeRow_spec : ∀ (xs w r : List Int), xs.Nodup → (∀ y ∈ xs, 0 ≤ y ∧ y < (w.length : Int)) → (∀ y ∈ xs, 1 ≤ rd w y ∧ rd w y ≤ 100000) → r.Pairwise (· < ·) → (∀ y ∈ xs, y ∉ r) →
    (takeRow xs w r).1.length = w.length ∧ (∀ y : Int, 0 ≤ y → rd (takeRow xs w r).1 y = rd w y - (if y ∈ xs then 1 else 0)) ∧ (takeRow xs w r).2.Pairwise (· < ·) ∧ ∀ y, y ∈ (takeRow xs w r).2 ↔ y ∈ r ∨ (y ∈ xs ∧ rd w y = 1)
  | [], w, r, _, _, _, hr, _ => ⟨rfl, fun y _ => by simp [takeRow], hr, fun y => by simp [takeRow]⟩
  | x :: xs, w, r, hn, hx, hb, hr, hnr => by
    obtain ⟨hx0, hx1⟩ := hx x (by simp)
    obtain ⟨hb0, hb1⟩ := hb x (by simp)
    rw [List.nodup_cons] at hn
    have hw : wrap64 (rd w x - 1) = rd w x - 1 := wrap_small (by omega) (by omega)
    have hset : ∀ y, 0 ≤ y → rd (w.set x.toNat (rd w x - 1)) y = if y = x then rd w x - 1 else rd w y := fun y hy => by
      by_cases e : y = x
      · subst e; rw [if_pos rfl, rd_set_same _ _ _ hx0 hx1]
      · rw [if_neg e, rd_set_other _ _ _ _ hy hx0 e]
    have hxs : ∀ y ∈ xs, y ≠ x := fun y hy e => hn.1 (by rw [← e]; exact hy)
    have h1 : ∀ y ∈ xs, 0 ≤ y ∧ y < ((w.set x.toNat (rd w x - 1)).length : Int) := fun y hy => by rw [List.length_set]; exact hx y (List.mem_cons_of_mem _ hy)
    have h2 : ∀ y ∈ xs, 1 ≤ rd (w.set x.toNat (rd w x - 1)) y ∧ rd (w.set x.toNat (rd w x - 1)) y ≤ 100000 := fun y hy => by
      rw [hset y (hx y (List.mem_cons_of_mem _ hy)).1, if_neg (hxs y hy)]; exact hb y (List.mem_cons_of_mem _ hy)
    have fin : ∀ (r' : List Int), r'.Pairwise (· < ·) → (∀ y ∈ xs, y ∉ r') → (∀ y, y ∈ r' ↔ y ∈ r ∨ (y = x ∧ rd w x = 1)) →
        (takeRow xs (w.set x.toNat (rd w x - 1)) r').1.length = w.length ∧ (∀ y : Int, 0 ≤ y → rd (takeRow xs (w.set x.toNat (rd w x - 1)) r').1 y = rd w y - (if y ∈ x :: xs then 1 else 0)) ∧
        (takeRow xs (w.set x.toNat (rd w x - 1)) r').2.Pairwise (· < ·) ∧ ∀ y, y ∈ (takeRow xs (w.set x.toNat (rd w x - 1)) r').2 ↔ y ∈ r ∨ (y ∈ x :: xs ∧ rd w y = 1) := by
      intro r' hr' hnr' hm
      obtain ⟨a, b, c, d⟩ := takeRow_spec xs (w.set x.toNat (rd w x - 1)) r' hn.2 h1 h2 hr' hnr'
      refine ⟨by rw [a, List.length_set], fun y hy => ?_, c, fun y => ?_⟩
      · rw [b y hy, hset y hy]
        by_cases e : y = x
        · subst e; rw [if_pos rfl, if_neg hn.1, if_pos (by simp)]; omega
        · rw [if_neg e]
          by_cases hyx : y ∈ xs
          · rw [if_pos hyx, if_pos (by simp [hyx])]
          · rw [if_neg hyx, if_neg (by simp [hyx, e])]
      · rw [d, hm]
        constructor
        · rintro ((h | ⟨e, h⟩) | ⟨h, h'⟩)
          · exact .inl h
          · subst e; exact .inr ⟨by simp, h⟩
          · rw [hset y (hx y (List.mem_cons_of_mem _ h)).1, if_neg (hxs y h)] at h'
            exact .inr ⟨by simp [h], h'⟩
        · rintro (h | ⟨h, h'⟩)
          · exact .inl (.inl h)
          · rcases List.mem_cons.1 h with e | h
            · subst e; exact .inl (.inr ⟨rfl, h'⟩)
            · exact .inr ⟨h, by rw [hset y (hx y (List.mem_cons_of_mem _ h)).1, if_neg (hxs y h)]; exact h'⟩
    unfold takeRow
    rw [hw]
    by_cases hz : rd w x - 1 = 0
    · rw [if_pos hz]
      obtain ⟨i1, i2⟩ := insert_strict r x hr (hnr x (by simp))
      exact fin _ i1 (fun y hy => by rw [i2]; rintro (e | e); exact hxs y hy e; exact hnr y (by simp [hy]) e) (fun y => by rw [i2]; constructor; (rintro (e | e); exact .inr ⟨e, by omega⟩; exact .inl e); (rintro (e | e); exact .inr e; exact .inl e.1))
    · rw [if_neg hz]
      exact fin r hr (fun y hy => hnr y (by simp [hy])) (fun y => ⟨fun h => .inl h, fun h => h.elim id (fun h => absurd h.2 (by omega))⟩)
theorem countP_out (L : List Int) (hn : L.Nodup) (out : List Int) (v : Int) (hv : v ∉ out) : L.countP (fun u => decide (u ∉ out ++ [v])) + (if v ∈ L then 1 else 0) = L.countP (fun u => decide (u ∉ out)) := by
  induction L with
  | nil => simp
  | cons a L ih =>
    rw [List.nodup_cons] at hn
    have ih := ih hn.2
    rw [List.countP_cons, List.countP_cons]
    by_cases e : a = v
    · subst e
      rw [if_neg hn.1] at ih
      simp [hv] at ih ⊢
      omega
    · have e1 : (decide (a ∉ out ++ [v])) = decide (a ∉ out) := by simp [e]
      rw [e1]
      have e2 : (v ∈ a :: L) ↔ v ∈ L := by simp [Ne.symm e]
      by_cases hL : v ∈ L
      · rw [if_pos hL] at ih; rw [if_pos (e2.2 hL)]; omega
      · rw [if_neg hL] at ih; rw [if_neg (fun h => hL (e2.1 h))]; omega
structure KInv (n : Nat) (l : List S55) (w r out : List Int) : Prop where
  wl : w.length = n
  g : Greedy n l out
  cnt : ∀ v : Int, 0 ≤ v → v < n → v ∉ out → rd w v = ((row (pv n l) v).countP (fun u => decide (u ∉ out)) : Nat)
  rs : r.Pairwise (· < ·)
  rm : ∀ v, v ∈ r ↔ Avail n l out v
theorem KInv.step {n : Nat} (hn : n ≤ 1000) {l : List S55} (hl : Ok n l) {w q out : List Int} {v : Int} (h : KInv n l w (v :: q) out) : KInv n l (takeRow (row (nx n l) v) w q).1 (takeRow (row (nx n l) v) w q).2 (out ++ [v]) := by
  have hv : Avail n l out v := (h.rm v).1 (by simp)
  obtain ⟨hv0, hv1, hvo, hvp⟩ := hv
  have hrow : ∀ y, y ∈ row (nx n l) v ↔ E l v y := fun y => mem_nx hl y hv0 hv1
  have hq := List.pairwise_cons.1 h.rs
  have hs : ∀ y ∈ row (nx n l) v, 0 ≤ y ∧ y < (n : Int) ∧ y ∉ out ∧ y ≠ v := fun y hy => by
    have he := (hrow y).1 hy
    obtain ⟨_, _, y0, y1⟩ := he.ok hl
    exact ⟨y0, y1, fun hyo => hvo (h.g.closed hyo he), fun e => by subst e; exact hvo (hvp _ he)⟩
  have hb : ∀ y ∈ row (nx n l) v, 1 ≤ rd w y ∧ rd w y ≤ 100000 := fun y hy => by
    obtain ⟨y0, y1, y2, y3⟩ := hs y hy
    rw [h.cnt y y0 y1 y2]
    have h1 : 0 < (row (pv n l) y).countP (fun u => decide (u ∉ out)) := List.countP_pos_iff.2 ⟨v, (mem_pv hl v y0 y1).2 ((hrow y).1 hy), by simpa using hvo⟩
    have h2 : (row (pv n l) y).countP (fun u => decide (u ∉ out)) ≤ (row (pv n l) y).length := List.countP_le_length
    have h3 : (row (pv n l) y).length ≤ n := nodup_len (row_nodup _ _) (fun u hu => by have := ((mem_pv hl u y0 y1).1 hu).ok hl; exact ⟨this.1, this.2.1⟩)
    omega
  obtain ⟨t1, t2, t3, t4⟩ := takeRow_spec (row (nx n l) v) w q (row_nodup _ _) (fun y hy => by rw [h.wl]; exact ⟨(hs y hy).1, (hs y hy).2.1⟩) hb hq.2 (fun y hy hyq => hvo (((h.rm y).1 (by simp [hyq])).2.2.2 v ((hrow y).1 hy)))
  have hcnt : ∀ y : Int, 0 ≤ y → y < n → y ∉ out ++ [v] → rd (takeRow (row (nx n l) v) w q).1 y = ((row (pv n l) y).countP (fun u => decide (u ∉ out ++ [v])) : Nat) := fun y y0 y1 hy => by
    have hyo : y ∉ out := fun h => hy (by simp [h])
    have hc := countP_out (row (pv n l) y) (row_nodup _ _) out v hvo
    rw [t2 y y0, h.cnt y y0 y1 hyo]
    by_cases he : y ∈ row (nx n l) v
    · rw [if_pos he]
      rw [if_pos ((mem_pv hl v y0 y1).2 ((hrow y).1 he))] at hc
      omega
    · rw [if_neg he]
      rw [if_neg (fun h => he ((hrow y).2 ((mem_pv hl v y0 y1).1 h)))] at hc
      omega
  refine ⟨by rw [t1, h.wl], h.g.snoc ⟨hv0, hv1, hvo, hvp⟩ (fun u hu => ?_), hcnt, t3, fun y => ?_⟩
  · have hur := (h.rm u).2 hu
    rcases List.mem_cons.1 hur with e | hur
    · omega
    · have := hq.1 u hur; omega
  · rw [t4]
    have hcz : ∀ (o : List Int), 0 ≤ y → y < n → ((row (pv n l) y).countP (fun u => decide (u ∉ o)) = 0 ↔ ∀ u, E l u y → u ∈ o) := fun o y0 y1 => by
      rw [List.countP_eq_zero]
      constructor
      · intro h u hu
        have := h u ((mem_pv hl u y0 y1).2 hu)
        simpa using this
      · intro h u hu
        have := h u ((mem_pv hl u y0 y1).1 hu)
        simpa using this
    constructor
    · rintro (hyq | ⟨hyr, hy1⟩)
      · obtain ⟨y0, y1, y2, y3⟩ := (h.rm y).1 (by simp [hyq])
        have := hq.1 y hyq
        exact ⟨y0, y1, by simp [y2]; omega, fun u hu => by simp [y3 u hu]⟩
      · obtain ⟨y0, y1, y2, y3⟩ := hs y hyr
        refine ⟨y0, y1, by simp [y2, y3], (hcz _ y0 y1).1 ?_⟩
        have hc := countP_out (row (pv n l) y) (row_nodup _ _) out v hvo
        rw [if_pos ((mem_pv hl v y0 y1).2 ((hrow y).1 hyr))] at hc
        rw [h.cnt y y0 y1 y2] at hy1
        omega
    · rintro ⟨y0, y1, y2, y3⟩
      have hyo : y ∉ out := fun h => y2 (by simp [h])
      have hyv : y ≠ v := fun h => y2 (by simp [h])
      by_cases hall : ∀ u, E l u y → u ∈ out
      · have := (h.rm y).2 ⟨y0, y1, hyo, hall⟩
        rcases List.mem_cons.1 this with e | hyq
        · exact absurd e hyv
        · exact .inl hyq
      · have hev : E l v y := Classical.byContradiction fun hne => hall fun u hu => by
          have := y3 u hu
          rcases List.mem_append.1 this with h | h
          · exact h
          · rw [List.mem_singleton] at h; subst h; exact absurd hu hne
        refine .inr ⟨(hrow y).2 hev, ?_⟩
        have hc := countP_out (row (pv n l) y) (row_nodup _ _) out v hvo
        rw [if_pos ((mem_pv hl v y0 y1).2 hev), (hcz _ y0 y1).2 y3] at hc
        rw [h.cnt y y0 y1 hyo]
        omega
end Go.Proofs.Ytlldjinejckbaaa.Po

end
section
namespace Go.Proofs.Ytlldjinejckbaaa.Pd
open Go Go.RowKit Go.Proofs.YtlldjinejckbaaaW.PrintWords Go.Proofs.Ytlldjinejckbaaa.Mod Go.Proofs.Ytlldjinejckbaaa.Lb Go.Proofs.Ytlldjinejckbaaa.Ng Go.Proofs.Ytlldjinejckbaaa.Rc Go.Proofs.Ytlldjinejckbaaa.PD Go.Proofs.Ytlldjinejckbaaa.Pg Go.Proofs.Ytlldjinejckbaaa.Od Go.Proofs.Ytlldjinejckbaaa.Po Go.Proofs.Ytlldjinejckbaaa.Dp
theorem stepD_fold (v : Int) (hv : 0 ≤ v) : ∀ (xs cur : List Int), xs.Nodup → v ∉ xs → (∀ y ∈ xs, 0 ≤ y ∧ y < (cur.length : Int)) → -1000 ≤ rd cur v → rd cur v ≤ 100000 →
    (xs.foldl (stepD v) cur).length = cur.length ∧ ∀ y : Int, 0 ≤ y → rd (xs.foldl (stepD v) cur) y = if y ∈ xs then max (rd cur y) (rd cur v + 1) else rd cur y
  | [], cur, _, _, _, _, _ => ⟨rfl, fun y _ => by simp⟩
  | x :: xs, cur, hn, hvx, hx, hb0, hb1 => by
    rw [List.nodup_cons] at hn
    obtain ⟨hx0, hx1⟩ := hx x (by simp)
    have hw : wrap64 (rd cur v + 1) = rd cur v + 1 := Po.wrap_small (by omega) (by omega)
    have hne : v ≠ x := fun e => hvx (by simp [e])
    have hset : ∀ y, 0 ≤ y → rd (stepD v cur x) y = if y = x then max (rd cur x) (rd cur v + 1) else rd cur y := fun y hy => by
      unfold stepD
      rw [hw]
      by_cases e : y = x
      · subst e; rw [if_pos rfl, rd_set_same _ _ _ hx0 hx1]
      · rw [if_neg e, rd_set_other _ _ _ _ hy hx0 e]
    have hvv : rd (stepD v cur x) v = rd cur v := by rw [hset v hv, if_neg hne]
    obtain ⟨a, b⟩ := stepD_fold v hv xs (stepD v cur x) hn.2 (fun h => hvx (by simp [h])) (fun y hy => by rw [stepD_len]; exact hx y (by simp [hy])) (by rw [hvv]; exact hb0) (by rw [hvv]; exact hb1)
    rw [List.foldl_cons]
    refine ⟨by rw [a, stepD_len], fun y hy => ?_⟩
    rw [b y hy, hset y hy, hvv]
    by_cases e : y = x
    · subst e; rw [if_neg hn.1, if_pos rfl, if_pos (by simp)]
    · rw [if_neg e]
      by_cases h : y ∈ xs
      · rw [if_pos h, if_pos (by simp [h])]
      · rw [if_neg h, if_neg (by simp [h, e])]
structure DInv (n : Nat) (l : List S55) (P cur : List Int) : Prop where
  len : cur.length = n
  lo : ∀ w : Int, 0 ≤ w → w < n → 0 ≤ rd cur w ∧ rd cur w ≤ (P.length : Int)
  ge : ∀ u w : Int, u ∈ P → E l u w → rd cur u + 1 ≤ rd cur w
  inP : ∀ u ∈ P, rd cur u < (P.length : Int)
  at_ : ∀ w : Int, 0 ≤ w → w < n → rd cur w = 0 ∨ ∃ u, u ∈ P ∧ E l u w ∧ rd cur w = rd cur u + 1
theorem DInv.step {n : Nat} {l : List S55} (hl : Ok n l) {P cur : List Int} {v : Int} (h : DInv n l P cur) (hP : P.length ≤ 1000) (hv0 : 0 ≤ v) (hv1 : v < n) (hvs : ¬ E l v v) (hvP : ∀ u ∈ P, ¬ E l v u) (hP0 : ∀ u ∈ P, 0 ≤ u) :
    DInv n l (P ++ [v]) ((row (nx n l) v).foldl (stepD v) cur) := by
  have hrow : ∀ y, y ∈ row (nx n l) v ↔ E l v y := fun y => mem_nx hl y hv0 hv1
  obtain ⟨b0, b1⟩ := h.lo v hv0 hv1
  obtain ⟨s1, s2⟩ := stepD_fold v hv0 (row (nx n l) v) cur (row_nodup _ _) (fun hm => hvs ((hrow v).1 hm)) (fun y hy => by rw [h.len]; have := ((hrow y).1 hy).ok hl; exact ⟨this.2.2.1, this.2.2.2⟩) (by omega) (by omega)
  have hold : ∀ u, 0 ≤ u → (u ∈ P ∨ u = v) → rd ((row (nx n l) v).foldl (stepD v) cur) u = rd cur u := fun u hu hm => by
    rw [s2 u hu, if_neg]
    intro hr
    have he := (hrow u).1 hr
    rcases hm with hm | hm
    · exact hvP u hm he
    · subst hm; exact hvs he
  refine ⟨by rw [s1, h.len], fun w w0 w1 => ?_, fun u w hu he => ?_, fun u hu => ?_, fun w w0 w1 => ?_⟩
  · obtain ⟨c0, c1⟩ := h.lo w w0 w1
    rw [s2 w w0, List.length_append, List.length_singleton]
    split <;> omega
  · obtain ⟨u0, u1, w0, w1⟩ := he.ok hl
    have hu' : u ∈ P ∨ u = v := by rcases List.mem_append.1 hu with h | h; exact .inl h; exact .inr (by simpa using h)
    rw [hold u u0 hu', s2 w w0]
    rcases hu' with hu' | hu'
    · have := h.ge u w hu' he
      split <;> omega
    · subst hu'
      rw [if_pos ((hrow w).2 he)]
      omega
  · rw [List.length_append, List.length_singleton]
    rcases List.mem_append.1 hu with hu | hu
    · have h1 := h.inP u hu
      rw [hold u (hP0 u hu) (.inl hu)]
      omega
    · rw [List.mem_singleton] at hu
      subst hu
      rw [hold u hv0 (.inr rfl)]
      omega
  · rw [s2 w w0]
    by_cases hm : w ∈ row (nx n l) v
    · rw [if_pos hm]
      by_cases hc : rd cur w ≤ rd cur v + 1
      · right
        refine ⟨v, by simp, (hrow w).1 hm, ?_⟩
        rw [hold v hv0 (.inr rfl)]
        omega
      · rcases h.at_ w w0 w1 with e | ⟨u, hu, he, e⟩
        · left; omega
        · right
          refine ⟨u, by simp [hu], he, ?_⟩
          rw [hold u (he.ok hl).1 (.inl hu)]
          omega
    · rw [if_neg hm]
      rcases h.at_ w w0 w1 with e | ⟨u, hu, he, e⟩
      · exact .inl e
      · exact .inr ⟨u, by simp [hu], he, by rw [hold u (he.ok hl).1 (.inl hu)]; exact e⟩
end Go.Proofs.Ytlldjinejckbaaa.Pd

end
section
namespace Go.Proofs.Ytlldjinejckbaaa.Pe
open Go Go.RowKit Go.Proofs.YtlldjinejckbaaaW.PrintWords Go.Proofs.Ytlldjinejckbaaa.Mod Go.Proofs.Ytlldjinejckbaaa.Lb Go.Proofs.Ytlldjinejckbaaa.Ng Go.Proofs.Ytlldjinejckbaaa.Rc Go.Proofs.Ytlldjinejckbaaa.PD Go.Proofs.Ytlldjinejckbaaa.Pg Go.Proofs.Ytlldjinejckbaaa.Tj
def uins (x : Int) : List Int → List Int
  | [] => [x]
  | y :: ys => if x < y then x :: y :: ys else if x = y then y :: ys else y :: uins x ys
def usort (xs : List Int) : List Int := xs.foldr uins []
theorem mem_uins (x z : Int) : ∀ ys, z ∈ uins x ys ↔ z = x ∨ z ∈ ys
  | [] => by simp [uins]
  | y :: ys => by
    unfold uins
    split
    · simp
    · split
      · rename_i h; subst h; simp
      · rw [List.mem_cons, mem_uins x z ys, List.mem_cons]
        constructor
        · rintro (h | h | h); exact .inr (.inl h); exact .inl h; exact .inr (.inr h)
        · rintro (h | h | h); exact .inr (.inl h); exact .inl h; exact .inr (.inr h)
theorem uins_strict (x : Int) : ∀ ys, ys.Pairwise (· < ·) → (uins x ys).Pairwise (· < ·)
  | [], _ => by simp [uins]
  | y :: ys, h => by
    rw [List.pairwise_cons] at h
    unfold uins
    split
    · rename_i hx
      rw [List.pairwise_cons]
      refine ⟨fun z hz => ?_, List.pairwise_cons.2 h⟩
      rcases List.mem_cons.1 hz with hz | hz
      · omega
      · have := h.1 z hz; omega
    · split
      · exact List.pairwise_cons.2 h
      · rw [List.pairwise_cons]
        refine ⟨fun z hz => ?_, uins_strict x ys h.2⟩
        rcases (mem_uins x z ys).1 hz with hz | hz
        · omega
        · exact h.1 z hz
theorem usort_spec : ∀ xs : List Int, (usort xs).Pairwise (· < ·) ∧ ∀ z, z ∈ usort xs ↔ z ∈ xs
  | [] => by simp [usort]
  | x :: xs => by
    obtain ⟨h1, h2⟩ := usort_spec xs
    exact ⟨uins_strict x _ h1, fun z => by show z ∈ uins x (usort xs) ↔ _; rw [mem_uins, h2, List.mem_cons]⟩
theorem compact_sort (xs : List Int) : Lib.compact (sortI xs) = usort xs := strict_ext (tidyRow xs).1 (usort_spec xs).1 (fun z => by rw [(tidyRow xs).2, (usort_spec xs).2])
theorem tidy_eval (rows : List (List Int)) : tidy rows = rows.map usort := by
  unfold tidy
  exact List.map_congr_left (fun r _ => compact_sort r)
def ins1 (x : Int) : List Int → List Int
  | [] => [x]
  | y :: ys => if x ≤ y then x :: y :: ys else y :: ins1 x ys
def isort (xs : List Int) : List Int := xs.foldr ins1 []
theorem ins1_perm (x : Int) : ∀ ys, (ins1 x ys).Perm (x :: ys)
  | [] => .refl _
  | y :: ys => by
    unfold ins1
    split
    · exact .refl _
    · exact ((ins1_perm x ys).cons y).trans (List.Perm.swap x y ys)
theorem ins1_sorted (x : Int) : ∀ ys, ys.Pairwise (· ≤ ·) → (ins1 x ys).Pairwise (· ≤ ·)
  | [], _ => by simp [ins1]
  | y :: ys, h => by
    rw [List.pairwise_cons] at h
    unfold ins1
    split
    · rename_i hx
      rw [List.pairwise_cons]
      refine ⟨fun z hz => ?_, List.pairwise_cons.2 h⟩
      rcases List.mem_cons.1 hz with hz | hz
      · omega
      · have := h.1 z hz; omega
    · rw [List.pairwise_cons]
      refine ⟨fun z hz => ?_, ins1_sorted x ys h.2⟩
      rcases List.mem_cons.1 ((ins1_perm x ys).mem_iff.1 hz) with hz | hz
      · omega
      · exact h.1 z hz
theorem isort_spec : ∀ xs : List Int, (isort xs).Pairwise (· ≤ ·) ∧ (isort xs).Perm xs
  | [] => by simp [isort]
  | x :: xs => by
    obtain ⟨h1, h2⟩ := isort_spec xs
    exact ⟨ins1_sorted x _ h1, (ins1_perm x _).trans (h2.cons x)⟩
theorem sortA_eq : sortA = isort := by
  funext xs
  have h1 : (sortA xs).Pairwise (· ≤ ·) := sortI_sorted xs
  have h2 : (sortA xs).Perm xs := List.mergeSort_perm _ _
  exact List.Perm.eq_of_pairwise (le := fun x y : Int => x ≤ y) (fun x y _ _ h1 h2 => by omega) h1 (isort_spec xs).1 (h2.trans (isort_spec xs).2.symm)
def shutE (s : TS) (k : Nat) : TS :=
  { s with stack := s.stack.take k, opn := (s.stack.drop k).foldl (fun o x => o.set x.toNat false) s.opn, out := s.out ++ [isort (s.stack.drop k)] }
def visitE (rows : List (List Int)) : Nat → Int → TS → Option TS
  | 0, _, _ => none
  | f + 1, v, s => if 50000 < s.stack.length then none else match visitRow (visitE rows f) v (row rows v) (s.meet v) with
    | none => none
    | some s2 => if rd s2.low v < rd s2.num v then some s2 else if 50000 < s2.stack.length ∨ 50000 < s2.out.length then none else (match s2.stack.findIdx? (· == v) with
      | some k => some (shutE s2 k)
      | none => none)
theorem visit_eq (rows : List (List Int)) : ∀ f, visit rows f = visitE rows f
  | 0 => by funext v s; rfl
  | f + 1 => by
    funext v s
    unfold visit visitE
    rw [visit_eq rows f]
    have e : ∀ (s : TS) k, s.shut k = shutE s k := fun s k => by unfold TS.shut shutE; rw [sortA_eq]
    simp only [e]
    rfl
def visitAllE (rows : List (List Int)) (n : Nat) : Nat → TS → Option TS
  | 0, s => some s
  | k + 1, s => if rd s.num ((n - (k + 1) : Nat) : Int) = 0 then (match visitE rows (n + 1) ((n - (k + 1) : Nat) : Int) s with
      | some s' => visitAllE rows n k s'
      | none => none) else visitAllE rows n k s
theorem visitAll_eq (rows : List (List Int)) (n : Nat) : ∀ k s, visitAll rows n k s = visitAllE rows n k s
  | 0, s => rfl
  | k + 1, s => by
    unfold visitAll visitAllE
    rw [visit_eq]
    split
    · split
      · rename_i s' h; rw [h]; exact visitAll_eq rows n k s'
      · rename_i h; rw [h]
    · exact visitAll_eq rows n k s
abbrev g1 : List S55 := [⟨2, 0⟩, ⟨0, 3⟩, ⟨1, 3⟩]
abbrev g2 : List S55 := [⟨2, 0⟩, ⟨0, 3⟩, ⟨1, 3⟩, ⟨3, 2⟩]
abbrev g3 : List S55 := [⟨2, 0⟩, ⟨0, 3⟩, ⟨1, 3⟩, ⟨1, 1⟩]
theorem t1 : tidy (built 4 g1 true) = [[3], [3], [0], []] := by rw [tidy_eval]; decide +kernel
theorem t1p : tidy (built 4 g1 false) = [[2], [], [], [0, 1]] := by rw [tidy_eval]; decide +kernel
theorem t2 : tidy (built 4 g2 true) = [[3], [3], [0], [2]] := by rw [tidy_eval]; decide +kernel
theorem t2p : tidy (built 4 g2 false) = [[2], [], [3], [0, 1]] := by rw [tidy_eval]; decide +kernel
theorem t3 : tidy (built 4 g3 true) = [[3], [1, 3], [0], []] := by rw [tidy_eval]; decide +kernel
theorem t3p : tidy (built 4 g3 false) = [[2], [1], [], [0, 1]] := by rw [tidy_eval]; decide +kernel
theorem o1 : Od.orderOf 4 g1 = some ([1, 2, 0, 3], 0) := by unfold Od.orderOf; rw [t1, t1p]; decide +kernel
theorem o2 : Od.orderOf 4 g2 = some ([], 50) := by unfold Od.orderOf; rw [t2, t2p]; decide +kernel
theorem d1 : Dp.depthOf 4 g1 = some ([1, 0, 0, 2], 0) := by unfold Dp.depthOf; rw [o1, t1]; decide +kernel
theorem d2 : Dp.depthOf 4 g2 = some ([], 50) := by unfold Dp.depthOf; rw [o2]; rfl
theorem c1 : Cy.cycleOf 4 g1 = some ([], 4) := by unfold Cy.cycleOf; rw [t1, t1p]; decide +kernel
theorem c2 : Cy.cycleOf 4 g2 = some ([0, 3, 2], 0) := by unfold Cy.cycleOf; rw [t2, t2p]; decide +kernel
theorem c3 : Cy.cycleOf 4 g3 = some ([1], 0) := by unfold Cy.cycleOf; rw [t3, t3p]; decide +kernel
theorem k1 : Tj.compsOf (tidy (built 4 g2 true)) 4 = some [[0, 2, 3], [1]] := by
  unfold Tj.compsOf
  rw [t2, visitAll_eq]
  have e : visitAllE [[3], [3], [0], [2]] 4 4 (Tj.start 4) = some { count := 4, num := [1, 4, 3, 2], low := [1, 4, 1, 1], opn := [false, false, false, false], stack := [], out := [[0, 2, 3], [1]] } := by kernel_rfl
  rw [e]
  have hf : Tj.fine [[0, 2, 3], [1]] = true := by decide +kernel
  simp only
  rw [if_pos hf, List.mergeSort_of_pairwise (by decide +kernel)]
theorem ch1 : Ck.checkOf 4 g1 [2, 0, 1, 3] = 0 := by decide +kernel
theorem ch2 : Ck.checkOf 4 g1 [0, 1, 2, 3] = 6 := by decide +kernel
theorem o0 : Od.orderOf 0 [] = some ([], 0) := by unfold Od.orderOf; rw [tidy_eval, tidy_eval]; decide +kernel
theorem sortI_eq : sortI = isort := sortA_eq
theorem r1 : Rc.reachOf 4 g1 2 = [0, 2, 3] := by unfold Rc.reachOf; rw [t1, sortI_eq]; decide +kernel
theorem r2 : Rc.reachOf 4 g1 4 = [] := by decide +kernel
end Go.Proofs.Ytlldjinejckbaaa.Pe

end
section
namespace Go.Proofs.Ytlldjinejckbaaa.PD
open Go Go.RowKit Go.Proofs.YtlldjinejckbaaaW.PrintWords Go.Proofs.YtlldjinejckbaaaW.PrintLast Go.Proofs.YtlldjinejckbaaaW.PrintMore
open Go.Proofs.Ytlldjinejckbaaa.Pg Go.Proofs.Ytlldjinejckbaaa.Pe
theorem ex_order1 : wireloomlaw05_order.f 4 g1 = some ([1, 2, 0, 3], 0) := by unfold wireloomlaw05_order.f digraph_Order.f; rw [if_pos (by decide), show (4 : Int).toNat = 4 from rfl, o1]; rfl
theorem ex_order2 : wireloomlaw05_order.f 4 g2 = some ([], 50) := by unfold wireloomlaw05_order.f digraph_Order.f; rw [if_pos (by decide), show (4 : Int).toNat = 4 from rfl, o2]; rfl
theorem ex_order0 : wireloomlaw05_order.f 0 [] = some ([], 0) := by unfold wireloomlaw05_order.f digraph_Order.f; rw [if_pos (by decide), show (0 : Int).toNat = 0 from rfl, o0]; rfl
theorem ex_depth1 : wireloomlaw05_depth.f 4 g1 = some ([1, 0, 0, 2], 0) := by unfold wireloomlaw05_depth.f digraph_Depth.f; rw [if_pos (by decide), show (4 : Int).toNat = 4 from rfl, d1]; rfl
theorem ex_depth2 : wireloomlaw05_depth.f 4 g2 = some ([], 50) := by unfold wireloomlaw05_depth.f digraph_Depth.f; rw [if_pos (by decide), show (4 : Int).toNat = 4 from rfl, d2]; rfl
theorem ex_cycle1 : wireloomlaw05_cycle.f 4 g1 = some ([], 4) := by unfold wireloomlaw05_cycle.f digraph_Cycle.f; rw [if_pos (by decide), show (4 : Int).toNat = 4 from rfl, c1]; rfl
theorem ex_cycle2 : wireloomlaw05_cycle.f 4 g2 = some ([0, 3, 2], 0) := by unfold wireloomlaw05_cycle.f digraph_Cycle.f; rw [if_pos (by decide), show (4 : Int).toNat = 4 from rfl, c2]; rfl
theorem ex_cycle3 : wireloomlaw05_cycle.f 4 g3 = some ([1], 0) := by unfold wireloomlaw05_cycle.f digraph_Cycle.f; rw [if_pos (by decide), show (4 : Int).toNat = 4 from rfl, c3]; rfl
theorem ex_reach1 : digraph_Reach.f 4 g1 2 = some [0, 2, 3] := by unfold digraph_Reach.f; rw [if_pos (by decide), show (4 : Int).toNat = 4 from rfl, r1]
theorem ex_reach2 : digraph_Reach.f 4 g1 4 = some [] := by unfold digraph_Reach.f; rw [if_pos (by decide), show (4 : Int).toNat = 4 from rfl, r2]
theorem ex_comps : digraph_Components.f 4 g2 = some [[0, 2, 3], [1]] := by unfold digraph_Components.f; rw [if_pos (by decide), show (4 : Int).toNat = 4 from rfl, k1]
theorem ex_check1 : digraph_Check.f 4 g1 [2, 0, 1, 3] = some 0 := by unfold digraph_Check.f; rw [if_pos (by decide), show (4 : Int).toNat = 4 from rfl, ch1]
theorem ex_check2 : digraph_Check.f 4 g1 [0, 1, 2, 3] = some 6 := by unfold digraph_Check.f; rw [if_pos (by decide), show (4 : Int).toNat = 4 from rfl, ch2]
theorem ex_with1 : wireloomref05_With.f 4 g1 3 2 = some (4, g2) := by kernel_rfl
theorem ex_with2 : wireloomref05_With.f 4 g1 1 1 = some (4, g3) := by kernel_rfl
theorem ex_valid1 : digraph_Valid.f 20 4 g1 = some true := by kernel_rfl
theorem ex_valid2 : digraph_Valid.f 20 3 g1 = some false := by kernel_rfl
theorem examples_at : wireloomlaw05_examples.f 22 = some true := by
  unfold wireloomlaw05_examples.f
  simp only [Option.bind_some]
  rw [ex_with1, Option.bind_some, ex_with2, Option.bind_some, ex_order1, Option.bind_some]
  rw [show wireloomref05_Alike.f 22 [1, 2, 0, 3] 0 [1, 2, 0, 3] 0 = some true from by kernel_rfl, Option.bind_some, if_pos rfl, ex_depth1, Option.bind_some]
  rw [show wireloomref05_Alike.f 22 [1, 0, 0, 2] 0 [1, 0, 0, 2] 0 = some true from by kernel_rfl, Option.bind_some, if_pos rfl, ex_reach1, Option.bind_some]
  rw [show wireloomref05_Same.f 22 [0, 2, 3] [0, 2, 3] = some true from by kernel_rfl, Option.bind_some, if_pos rfl, ex_cycle1, Option.bind_some]
  show wireloomlaw05_examples.j0 (21 + 1) false 4 g1 4 g2 4 g3 = some true
  simp only [wireloomlaw05_examples.j0]
  rw [if_neg (by decide), ex_order2, Option.bind_some, if_pos rfl, ex_depth2, Option.bind_some, if_pos rfl, ex_cycle2, Option.bind_some]
  rw [show wireloomref05_Alike.f 21 [0, 3, 2] 0 [0, 3, 2] 0 = some true from by kernel_rfl, Option.bind_some, if_pos rfl, ex_cycle3, Option.bind_some]
  rw [show wireloomref05_Alike.f 21 [1] 0 [1] 0 = some true from by kernel_rfl, Option.bind_some, if_pos rfl, ex_comps, Option.bind_some]
  rw [show wireloomref05_SameLists.f 21 [[0, 2, 3], [1]] [[0, 2, 3], [1]] = some true from by kernel_rfl, Option.bind_some]
  show wireloomlaw05_examples.j1 (20 + 1) false 4 g1 = some true
  simp only [wireloomlaw05_examples.j1]
  rw [if_neg (by decide), ex_valid1, Option.bind_some, if_pos rfl, ex_valid2, Option.bind_some, if_neg (by decide), ex_check1, Option.bind_some, if_pos rfl, ex_check2, Option.bind_some, if_pos rfl, ex_order0, Option.bind_some, if_pos rfl, ex_reach2, Option.bind_some]
  rfl
theorem examples_ev : Ev (fun k => wireloomlaw05_examples.f k) true := Ev.of wireloomlaw05_examples.mono examples_at
theorem wrap_ok {x : Int} (h0 : -1000000 ≤ x) (h1 : x ≤ 1000000) : wrap64 x = x := by unfold wrap64; omega
theorem rd_bound {B : List Int} (hB : ∀ x ∈ B, 0 ≤ x ∧ x ≤ 255) {i : Int} (h0 : 0 ≤ i) (h1 : i < (B.length : Int)) : 0 ≤ rd B i ∧ rd B i ≤ 255 := by
  apply hB
  unfold rd
  rw [List.getD_eq_getElem?_getD, List.getElem?_eq_getElem (by omega)]
  exact List.getElem_mem _
theorem ok_add {n : Nat} {l : List S55} (h : Ok n l) {u v : Int} (h0 : 0 ≤ u) (h1 : u < n) (h2 : 0 ≤ v) (h3 : v < n) : Ok n (l ++ [⟨u, v⟩]) := fun e he => by
  rcases List.mem_append.1 he with he | he
  · exact h e he
  · rw [List.mem_singleton] at he; subst he; exact ⟨h0, h1, h2, h3⟩
theorem made_loop {n : Nat} (hn : n ≤ 12) (a b : Int) (hb0 : 0 ≤ b) {B : List Int} (hB : ∀ x ∈ B, 0 ≤ x ∧ x ≤ 255) : ∀ (d j : Nat) (l : List S55), j + d = 30 → l.length ≤ j → Ok n l →
    ∃ lf, Ev (fun k => wireloomref05_Made.l0 k n (2 * (j : Int)) a b B n l) ((n : Int), lf) ∧ Ok n lf ∧ lf.length ≤ 30 := by
  intro d
  induction d with
  | zero =>
    intro j l hj hl hok
    refine ⟨l, ?_, hok, by omega⟩
    obtain rfl : j = 30 := by omega
    have hend : Ev (fun k => wireloomref05_Made.j1 k n (2 * ((30 : Nat) : Int)) false a b B n l) ((n : Int), l) := Ev.step (f := fun _ => some ((n : Int), l)) (fun k => by simp only [wireloomref05_Made.j1]; rw [if_neg (by decide)]) (Ev.now _)
    refine Ev.step (f := fun k => wireloomref05_Made.j1 k n (2 * ((30 : Nat) : Int)) false a b B n l) (fun k => ?_) hend
    simp only [wireloomref05_Made.l0]
    split
    · rw [if_neg (by omega)]
    · rfl
  | succ d ih =>
    intro j l hj hl hok
    have hi : (0 : Int) ≤ 2 * (j : Int) ∧ 2 * (j : Int) ≤ 58 := by omega
    have w1 : wrap64 (2 * (j : Int) + 1) = 2 * (j : Int) + 1 := wrap_ok (by omega) (by omega)
    have w2 : wrap64 (2 * (j : Int) + 2) = 2 * ((j + 1 : Nat) : Int) := by rw [wrap_ok (by omega) (by omega)]; omega
    have hend : Ev (fun k => wireloomref05_Made.j1 k n (2 * (j : Int)) false a b B n l) ((n : Int), l) := Ev.step (f := fun _ => some ((n : Int), l)) (fun k => by simp only [wireloomref05_Made.j1]; rw [if_neg (by decide)]) (Ev.now _)
    by_cases hc : 2 * (j : Int) + 1 < (B.length : Int) ∧ 0 < n
    · obtain ⟨hc1, hc2⟩ := hc
      obtain ⟨r0, r1⟩ := rd_bound hB (i := 2 * (j : Int)) (by omega) (by omega)
      obtain ⟨s0, s1⟩ := rd_bound hB (i := 2 * (j : Int) + 1) (by omega) (by omega)
      have wr : wrap64 (rd B (2 * (j : Int))) = rd B (2 * (j : Int)) := wrap_ok (by omega) (by omega)
      have ws : wrap64 (rd B (2 * (j : Int) + 1)) = rd B (2 * (j : Int) + 1) := wrap_ok (by omega) (by omega)
      obtain ⟨v, hv⟩ : ∃ v, v = Int.tmod (rd B (2 * (j : Int))) n := ⟨_, rfl⟩
      obtain ⟨u, hu⟩ : ∃ u, u = Int.tmod (rd B (2 * (j : Int) + 1)) n := ⟨_, rfl⟩
      have v0 : 0 ≤ v := by rw [hv]; exact Int.tmod_nonneg _ r0
      have v1 : v < n := by rw [hv]; exact Int.tmod_lt_of_pos _ (by omega)
      have u0 : 0 ≤ u := by rw [hu]; exact Int.tmod_nonneg _ s0
      have u1 : u < n := by rw [hu]; exact Int.tmod_lt_of_pos _ (by omega)
      have hlt : l.length < 8796093022208 := by omega
      have next : ∀ l', l'.length ≤ j + 1 → Ok n l' → ∃ lf, Ev (fun k => wireloomref05_Made.l0 k n (wrap64 (2 * (j : Int) + 2)) a b B n l') ((n : Int), lf) ∧ Ok n lf ∧ lf.length ≤ 30 := fun l' h1 h2 => by
        rw [w2]; exact ih (j + 1) l' (by omega) h1 h2
      have swapped : ∀ x y : Int, 0 ≤ x → x < n → 0 ≤ y → y < n → ∃ lf, Ev (fun k => wireloomref05_Made.j2 k n (2 * (j : Int)) x y a b B n l) ((n : Int), lf) ∧ Ok n lf ∧ lf.length ≤ 30 := fun x y x0 x1 y0 y1 => by
        by_cases h4 : Int.tmod b 4 = 2
        · by_cases h5 : Int.tmod (n : Int) 5 = 0
          · obtain ⟨lf, e, o, q⟩ := next l (by omega) hok
            refine ⟨lf, Ev.step (fun k => ?_) e, o, q⟩
            simp only [wireloomref05_Made.j2]
            rw [if_pos h4, if_neg (by omega), if_pos h5]
          · have wx : wrap64 (wrap64 (5 * x) + 3) = 5 * x + 3 := by rw [wrap_ok (x := 5 * x) (by omega) (by omega), wrap_ok (by omega) (by omega)]
            have wy : wrap64 (wrap64 (5 * y) + 3) = 5 * y + 3 := by rw [wrap_ok (x := 5 * y) (by omega) (by omega), wrap_ok (by omega) (by omega)]
            obtain ⟨lf, e, o, q⟩ := next (l ++ [⟨Int.tmod (5 * x + 3) n, Int.tmod (5 * y + 3) n⟩]) (by simp; omega) (ok_add hok (Int.tmod_nonneg _ (by omega)) (Int.tmod_lt_of_pos _ (by omega)) (Int.tmod_nonneg _ (by omega)) (Int.tmod_lt_of_pos _ (by omega)))
            refine ⟨lf, Ev.step (fun k => ?_) e, o, q⟩
            simp only [wireloomref05_Made.j2]
            rw [if_pos h4, if_neg (by omega), if_neg h5, if_pos hlt, wx, wy]
        · obtain ⟨lf, e, o, q⟩ := next (l ++ [⟨x, y⟩]) (by simp; omega) (ok_add hok x0 x1 y0 y1)
          refine ⟨lf, Ev.step (fun k => ?_) e, o, q⟩
          simp only [wireloomref05_Made.j2]
          rw [if_neg h4]
          split <;> first | rfl | rw [if_pos hlt]
      have body : ∃ lf, Ev (fun k => wireloomref05_Made.j1 k n (2 * (j : Int)) true a b B n l) ((n : Int), lf) ∧ Ok n lf ∧ lf.length ≤ 30 := by
        have e0 : ∀ k, wireloomref05_Made.j1 (k + 1) n (2 * (j : Int)) true a b B n l = (if (Int.tmod b 2) = 0 then (if v = u then (wireloomref05_Made.l0 k n (wrap64 (2 * (j : Int) + 2)) a b B n l) else (if v > u then (wireloomref05_Made.j2 k n (2 * (j : Int)) u v a b B n l) else (wireloomref05_Made.j2 k n (2 * (j : Int)) v u a b B n l))) else (wireloomref05_Made.l0 k n (wrap64 (2 * (j : Int) + 2)) a b B n (l ++ [⟨v, u⟩]))) := fun k => by
          simp only [wireloomref05_Made.j1]
          rw [if_pos (by first | rfl | trivial), if_pos (by omega), if_pos (by omega), if_neg (by omega), w1, if_pos (by omega), if_pos (by omega), if_pos hlt, wr, ws, ← hv, ← hu]
        by_cases h2 : Int.tmod b 2 = 0
        · by_cases hvu : v = u
          · obtain ⟨lf, e, o, q⟩ := next l (by omega) hok
            exact ⟨lf, Ev.step (fun k => by rw [e0, if_pos h2, if_pos hvu]) e, o, q⟩
          · by_cases hgt : v > u
            · obtain ⟨lf, e, o, q⟩ := swapped u v u0 u1 v0 v1
              exact ⟨lf, Ev.step (fun k => by rw [e0, if_pos h2, if_neg hvu, if_pos hgt]) e, o, q⟩
            · obtain ⟨lf, e, o, q⟩ := swapped v u v0 v1 u0 u1
              exact ⟨lf, Ev.step (fun k => by rw [e0, if_pos h2, if_neg hvu, if_neg hgt]) e, o, q⟩
        · obtain ⟨lf, e, o, q⟩ := next (l ++ [⟨v, u⟩]) (by simp; omega) (ok_add hok v0 v1 u0 u1)
          exact ⟨lf, Ev.step (fun k => by rw [e0, if_neg h2]) e, o, q⟩
      obtain ⟨lf, e, o, q⟩ := body
      refine ⟨lf, Ev.step (fun k => ?_) e, o, q⟩
      simp only [wireloomref05_Made.l0]
      rw [w1, if_pos hc1, if_pos (by omega), decide_eq_true (by omega)]
    · refine ⟨l, Ev.step (fun k => ?_) hend, hok, by omega⟩
      simp only [wireloomref05_Made.l0]
      rw [w1]
      by_cases h1 : 2 * (j : Int) + 1 < (B.length : Int)
      · rw [if_pos h1, if_pos (by omega), decide_eq_false (by omega)]
      · rw [if_neg h1]
theorem made_spec (a b : Int) (ha : 0 ≤ a) (hb : 0 ≤ b) {B : List Int} (hB : ∀ x ∈ B, 0 ≤ x ∧ x ≤ 255) : ∃ (n : Nat) (l : List S55), Ev (fun k => wireloomref05_Made.f k a b B) ((n : Int), l) ∧ n ≤ 12 ∧ Ok n l ∧ l.length ≤ 30 := by
  obtain ⟨n, hn⟩ : ∃ n : Nat, Int.tmod a 13 = n := ⟨(Int.tmod a 13).toNat, by have := Int.tmod_nonneg 13 ha; omega⟩
  have hn2 : n ≤ 12 := by have := Int.tmod_lt_of_pos a (b := 13) (by omega); omega
  have w : wrap64 (Int.tmod a 13) = n := by rw [hn]; exact wrap_ok (by omega) (by omega)
  obtain ⟨lf, e, o, q⟩ := made_loop hn2 a b hb hB 30 0 [] (by omega) (by simp) (fun e he => by simp at he)
  refine ⟨n, lf, Ev.congr (fun k => ?_) e, hn2, o, q⟩
  unfold wireloomref05_Made.f
  rw [w]
  rfl
end Go.Proofs.Ytlldjinejckbaaa.PD

end
section
namespace Go.Proofs.Ytlldjinejckbaaa.Pb
open Go Go.RowKit Go.Proofs.YtlldjinejckbaaaW.PrintWords Go.Proofs.Ytlldjinejckbaaa.Mod Go.Proofs.Ytlldjinejckbaaa.Pg
def Pa (R : Int → Int → Prop) : Nat → Int → Int → Prop
  | 0, u, v => u = v
  | k + 1, u, v => ∃ m, Pa R k u m ∧ R m v
def Dist (R : Int → Int → Prop) (u v : Int) (d : Nat) : Prop := Pa R d u v ∧ ∀ k, k < d → ¬ Pa R k u v
theorem Dist.le {R : Int → Int → Prop} {u v : Int} {d k : Nat} (h : Dist R u v d) (hp : Pa R k u v) : d ≤ k := Classical.byContradiction fun hn => h.2 k (by omega) hp
theorem Dist.eq {R : Int → Int → Prop} {u v : Int} {d e : Nat} (h : Dist R u v d) (h' : Dist R u v e) : d = e := by have := h.le h'.1; have := h'.le h.1; omega
theorem Pa.add {R : Int → Int → Prop} {u v : Int} {j : Nat} (h : Pa R j u v) : ∀ {k : Nat} {w : Int}, Pa R k v w → Pa R (j + k) u w
  | 0, w, hk => by cases hk; exact h
  | k + 1, w, ⟨m, hm, hr⟩ => ⟨m, Pa.add h hm, hr⟩
theorem Pa.one {R : Int → Int → Prop} {u v : Int} (h : R u v) : Pa R 1 u v := ⟨u, rfl, h⟩
theorem Pa.split {R : Int → Int → Prop} {u : Int} : ∀ {j k : Nat} {w : Int}, Pa R (j + k) u w → ∃ v, Pa R j u v ∧ Pa R k v w
  | j, 0, w, h => ⟨w, h, rfl⟩
  | j, k + 1, w, ⟨m, hm, hr⟩ => by
    obtain ⟨v, h1, h2⟩ := Pa.split (j := j) (k := k) hm
    exact ⟨v, h1, m, h2, hr⟩
theorem Pa.flip {R : Int → Int → Prop} {u : Int} : ∀ {k : Nat} {v : Int}, Pa R k u v → Pa (fun a b => R b a) k v u
  | 0, v, h => h.symm
  | k + 1, v, ⟨m, hm, hr⟩ => by
    have h1 := Pa.flip hm
    have h2 : Pa (fun a b => R b a) 1 v m := ⟨v, rfl, hr⟩
    rw [Nat.add_comm]
    exact h2.add h1
theorem Dist.flip {R : Int → Int → Prop} {u v : Int} {d : Nat} (h : Dist R u v d) : Dist (fun a b => R b a) v u d := ⟨h.1.flip, fun k hk hp => h.2 k hk hp.flip⟩
theorem Dist.prev {R : Int → Int → Prop} {u v : Int} {d : Nat} (h : Dist R u v (d + 1)) : ∃ m, Dist R u m d ∧ R m v := by
  obtain ⟨⟨m, hm, hr⟩, hn⟩ := h
  exact ⟨m, ⟨hm, fun k hk hp => hn (k + 1) (by omega) ⟨m, hp, hr⟩⟩, hr⟩
theorem Dist.next {R : Int → Int → Prop} {u v : Int} {d : Nat} (h : Dist R u v (d + 1)) : ∃ m, R u m ∧ Dist R m v d := by
  obtain ⟨m, h1, h2⟩ := h.flip.prev
  exact ⟨m, h2, h1.flip⟩
structure Tells (n : Nat) (rows : List (List Int)) (R : Int → Int → Prop) : Prop where
  len : rows.length = n
  row : ∀ v x : Int, 0 ≤ v → v < n → (x ∈ row rows v ↔ R v x)
  nd : ∀ v : Int, (Mod.row rows v).Nodup
  ok : ∀ v x : Int, R v x → 0 ≤ v ∧ v < n ∧ 0 ≤ x ∧ x < n
theorem tells_nx {n : Nat} {l : List PD.S55} (h : Ok n l) : Tells n (nx n l) (E l) := ⟨len_nx n l, fun v x h0 h1 => mem_nx h x h0 h1, fun v => row_nodup _ v, fun v x he => he.ok h⟩
theorem tells_pv {n : Nat} {l : List PD.S55} (h : Ok n l) : Tells n (pv n l) (fun a b => E l b a) := ⟨len_pv n l, fun v x h0 h1 => mem_pv h x h0 h1, fun v => row_nodup _ v, fun v x he => by have := he.ok h; exact ⟨this.2.2.1, this.2.2.2, this.1, this.2.1⟩⟩
theorem relax_spec (v : Int) : ∀ (xs far q : List Int), xs.Nodup → (∀ y ∈ xs, 0 ≤ y ∧ y < (far.length : Int)) → 0 ≤ v → 1 ≤ rd far v → rd far v ≤ 100000 →
    (relax v xs far q).1.length = far.length ∧ (relax v xs far q).2 = q ++ xs.filter (fun x => decide (rd far x = 0)) ∧ ∀ y : Int, 0 ≤ y → rd (relax v xs far q).1 y = if y ∈ xs ∧ rd far y = 0 then rd far v + 1 else rd far y
  | [], far, q, _, _, _, _, _ => ⟨rfl, by simp [relax], fun y _ => by simp [relax]⟩
  | x :: xs, far, q, hn, hx, hv, h1, h2 => by
    rw [List.nodup_cons] at hn
    obtain ⟨x0, x1⟩ := hx x (by simp)
    have hw : wrap64 (rd far v + 1) = rd far v + 1 := Po.wrap_small (by omega) (by omega)
    unfold relax
    by_cases hz : rd far x = 0
    · have hxv : v ≠ x := fun e => by subst e; omega
      have hvv : rd (far.set x.toNat (rd far v + 1)) v = rd far v := rd_set_other _ _ _ _ hv x0 hxv
      obtain ⟨a, b, c⟩ := relax_spec v xs (far.set x.toNat (rd far v + 1)) (q ++ [x]) hn.2 (fun y hy => by rw [List.length_set]; exact hx y (by simp [hy])) hv (by rw [hvv]; exact h1) (by rw [hvv]; exact h2)
      have hset : ∀ y, 0 ≤ y → rd (far.set x.toNat (rd far v + 1)) y = if y = x then rd far v + 1 else rd far y := fun y hy => by
        by_cases e : y = x
        · subst e; rw [if_pos rfl, rd_set_same _ _ _ x0 x1]
        · rw [if_neg e, rd_set_other _ _ _ _ hy x0 e]
      rw [if_pos hz, hw]
      refine ⟨by rw [a, List.length_set], ?_, fun y hy => ?_⟩
      · rw [b, List.filter_cons, if_pos (by simpa using hz), List.append_assoc]
        congr 1
        show x :: _ = _
        congr 1
        apply List.filter_congr
        intro y hy
        rw [hset y (hx y (by simp [hy])).1, if_neg (fun e => hn.1 (by rw [← e]; exact hy))]
      · rw [c y hy, hset y hy, hvv]
        by_cases e : y = x
        · subst e
          rw [if_pos rfl, if_neg (fun h => hn.1 h.1), if_pos ⟨by simp, hz⟩]
        · rw [if_neg e]
          by_cases h : y ∈ xs ∧ rd far y = 0
          · rw [if_pos h, if_pos ⟨by simp [h.1], h.2⟩]
          · rw [if_neg h, if_neg (fun h' => h ⟨by rcases List.mem_cons.1 h'.1 with h' | h'; exact absurd h' e; exact h', h'.2⟩)]
    · obtain ⟨a, b, c⟩ := relax_spec v xs far q hn.2 (fun y hy => hx y (by simp [hy])) hv h1 h2
      rw [if_neg hz]
      refine ⟨a, ?_, fun y hy => ?_⟩
      · rw [b, List.filter_cons, if_neg (by simpa using hz)]
      · rw [c y hy]
        by_cases h : y ∈ xs ∧ rd far y = 0
        · rw [if_pos h, if_pos ⟨by simp [h.1], h.2⟩]
        · rw [if_neg h, if_neg (fun h' => h ⟨by rcases List.mem_cons.1 h'.1 with h' | h'; (subst h'; exact absurd h'.2 hz); exact h', h'.2⟩)]
structure BI (n : Nat) (R : Int → Int → Prop) (s : Int) (done far q : List Int) : Prop where
  len : far.length = n
  nd : (done ++ q).Nodup
  rng : ∀ v ∈ done ++ q, 0 ≤ v ∧ v < (n : Int)
  seen : ∀ v : Int, 0 ≤ v → v < n → (rd far v ≠ 0 ↔ v ∈ done ++ q)
  dist : ∀ v ∈ done ++ q, ∃ d : Nat, rd far v = (d : Int) + 1 ∧ Dist R s v d ∧ d + 1 ≤ (done ++ q).length
  cl : ∀ v ∈ done, ∀ x, R v x → x ∈ done ++ q
  st : s ∈ done ++ q
  mono : q.Pairwise (fun a b => rd far a ≤ rd far b)
  near : ∀ a ∈ q, ∀ b ∈ q.head?, rd far a ≤ rd far b + 1
  old : ∀ a ∈ done, ∀ b ∈ q.head?, rd far a ≤ rd far b
  all : ∀ b ∈ q.head?, ∀ (k : Nat) (x : Int), Pa R k s x → (k : Int) + 1 ≤ rd far b → x ∈ done ++ q
theorem BI.step {n : Nat} (hn : n ≤ 1000) {rows : List (List Int)} {R : Int → Int → Prop} (hT : Tells n rows R) {s : Int} {done far q : List Int} {v : Int} (h : BI n R s done far (v :: q)) :
    BI n R s (done ++ [v]) (relax v (row rows v) far q).1 (relax v (row rows v) far q).2 := by
  have hvm : v ∈ done ++ v :: q := by simp
  obtain ⟨v0, v1⟩ := h.rng v hvm
  obtain ⟨d, hd, hdist, hdn⟩ := h.dist v hvm
  have hcard : (done ++ v :: q).length ≤ n := nodup_len h.nd h.rng
  have hrow : ∀ x, x ∈ row rows v ↔ R v x := fun x => hT.row v x v0 v1
  obtain ⟨r1, r2, r3⟩ := relax_spec v (row rows v) far q (hT.nd v) (fun y hy => by rw [h.len]; have := hT.ok v y ((hrow y).1 hy); exact ⟨this.2.2.1, this.2.2.2⟩) v0 (by omega) (by omega)
  obtain ⟨news, hnews⟩ : ∃ news, news = (row rows v).filter (fun x => decide (rd far x = 0)) := ⟨_, rfl⟩
  rw [← hnews] at r2
  have hnm : ∀ x, x ∈ news ↔ R v x ∧ rd far x = 0 := fun x => by rw [hnews, List.mem_filter, hrow]; simp
  have hnr : ∀ x ∈ news, 0 ≤ x ∧ x < (n : Int) := fun x hx => by have := hT.ok v x ((hnm x).1 hx).1; exact ⟨this.2.2.1, this.2.2.2⟩
  have hnn : ∀ x ∈ news, x ∉ done ++ v :: q := fun x hx hm => by
    have := (h.seen x (hnr x hx).1 (hnr x hx).2).2 hm
    exact this ((hnm x).1 hx).2
  have hfar : ∀ y, 0 ≤ y → rd (relax v (row rows v) far q).1 y = if y ∈ news then rd far v + 1 else rd far y := fun y hy => by
    rw [r3 y hy]
    by_cases hc : y ∈ row rows v ∧ rd far y = 0
    · rw [if_pos hc, if_pos ((hnm y).2 ⟨(hrow y).1 hc.1, hc.2⟩)]
    · rw [if_neg hc, if_neg (fun hm => hc ⟨(hrow y).2 ((hnm y).1 hm).1, ((hnm y).1 hm).2⟩)]
  have hold : ∀ y ∈ done ++ v :: q, rd (relax v (row rows v) far q).1 y = rd far y := fun y hy => by
    rw [hfar y (h.rng y hy).1, if_neg (fun hm => hnn y hm hy)]
  have hnew : ∀ y ∈ news, rd (relax v (row rows v) far q).1 y = rd far v + 1 := fun y hy => by rw [hfar y (hnr y hy).1, if_pos hy]
  have hmem : ∀ y, y ∈ done ++ [v] ++ (q ++ news) ↔ y ∈ done ++ v :: q ∨ y ∈ news := fun y => by
    have e : done ++ [v] ++ (q ++ news) = (done ++ v :: q) ++ news := by simp
    rw [e, List.mem_append]
  rw [r2]
  have hall : ∀ (k : Nat) (x : Int), Pa R k s x → (k : Int) + 1 ≤ rd far v → x ∈ done ++ v :: q := h.all v (by simp)
  have hcl : ∀ u ∈ done ++ [v], ∀ x, R u x → x ∈ done ++ v :: q ∨ x ∈ news := fun u hu x hx => by
    rcases List.mem_append.1 hu with hu | hu
    · exact .inl (h.cl u hu x hx)
    · rw [List.mem_singleton] at hu
      subst hu
      by_cases hz : rd far x = 0
      · exact .inr ((hnm x).2 ⟨hx, hz⟩)
      · have := hT.ok u x hx
        exact .inl ((h.seen x this.2.2.1 this.2.2.2).1 hz)
  have hq := List.pairwise_cons.1 h.mono
  have hnear : ∀ a ∈ q, rd far a ≤ rd far v + 1 := fun a ha => h.near a (by simp [ha]) v (by simp)
  have hdeep : ∀ b ∈ q ++ news, rd far v ≤ rd (relax v (row rows v) far q).1 b ∧ rd (relax v (row rows v) far q).1 b ≤ rd far v + 1 := fun b hb => by
    rcases List.mem_append.1 hb with hb | hb
    · rw [hold b (by simp [hb])]
      exact ⟨hq.1 b hb, hnear b hb⟩
    · rw [hnew b hb]; omega
  have hheadm : ∀ b, b ∈ (q ++ news).head? → b ∈ q ++ news := fun b hb => by
    cases hqn : q ++ news with
    | nil => rw [hqn] at hb; simp at hb
    | cons z zs => rw [hqn] at hb; simp at hb; subst hb; simp
  refine ⟨by rw [r1, h.len], ?_, fun y hy => ?_, fun y y0 y1 => ?_, fun y hy => ?_, fun u hu x hx => (hmem x).2 (hcl u hu x hx), (hmem s).2 (.inl h.st), ?_, fun a ha b hb => ?_, fun a ha b hb => ?_, fun b hb k x hp hk => ?_⟩
  · have h1 : (done ++ v :: q).Nodup := h.nd
    have e : done ++ [v] ++ (q ++ news) = (done ++ v :: q) ++ news := by simp
    rw [e, List.nodup_append]
    refine ⟨h1, ?_, fun a ha b hb e => hnn b hb (by rw [← e]; exact ha)⟩
    rw [hnews]; exact List.Pairwise.filter _ (hT.nd v)
  · rcases (hmem y).1 hy with hy | hy
    · exact h.rng y hy
    · exact hnr y hy
  · rw [hmem, hfar y y0]
    by_cases hy : y ∈ news
    · rw [if_pos hy]; exact ⟨fun _ => .inr hy, fun _ => by omega⟩
    · rw [if_neg hy, h.seen y y0 y1]; exact ⟨fun hh => .inl hh, fun hh => hh.resolve_right hy⟩
  · have hlen : (done ++ [v] ++ (q ++ news)).length = (done ++ v :: q).length + news.length := by simp only [List.length_append, List.length_cons, List.length_nil]; omega
    rcases (hmem y).1 hy with hy | hy
    · rw [hold y hy, hlen]
      obtain ⟨dy, e1, e2, e3⟩ := h.dist y hy
      exact ⟨dy, e1, e2, by omega⟩
    · refine ⟨d + 1, by rw [hnew y hy, hd]; omega, ⟨⟨v, hdist.1, ((hnm y).1 hy).1⟩, fun k hk hp => hnn y hy (hall k y hp (by omega))⟩, ?_⟩
      have : 0 < news.length := List.length_pos_of_mem hy
      rw [hlen]; omega
  · rw [List.pairwise_append]
    refine ⟨hq.2.imp_of_mem (fun {a b} ha hb hab => by rw [hold a (by simp [ha]), hold b (by simp [hb])]; exact hab), ?_, fun a ha b hb => ?_⟩
    · exact List.Pairwise.imp_of_mem (fun {a b} ha hb _ => by rw [hnew a ha, hnew b hb]; exact Int.le_refl _) (show news.Pairwise (· ≠ ·) by rw [hnews]; exact List.Pairwise.filter _ (hT.nd v))
    · rw [hold a (by simp [ha]), hnew b hb]; exact hnear a ha
  · have := hdeep a ha
    have := hdeep b (hheadm b hb)
    omega
  · have hb2 := (hdeep b (hheadm b hb)).1
    rcases List.mem_append.1 ha with ha | ha
    · rw [hold a (by simp [ha])]
      have := h.old a ha v (by simp)
      omega
    · rw [List.mem_singleton] at ha; subst ha
      rw [hold a (by simp)]; exact hb2
  ·
    rw [hmem]
    have hb2 := hdeep b (hheadm b hb)
    by_cases hkd : (k : Int) + 1 ≤ rd far v
    · exact .inl (hall k x hp hkd)
    · obtain ⟨k', rfl⟩ : ∃ k', k = k' + 1 := ⟨k - 1, by omega⟩
      obtain ⟨m, hm, hr⟩ := hp
      have hmm := hall k' m hm (by omega)
      have hmd : m ∈ done ++ [v] := by
        rcases List.mem_append.1 hmm with hh | hh
        · simp [hh]
        · rcases List.mem_cons.1 hh with hh | hh
          · simp [hh]
          · obtain ⟨dm, e1, e2, e2'⟩ := h.dist m hmm
            have h1 := e2.le hm
            have hge : rd (relax v (row rows v) far q).1 b ≤ rd (relax v (row rows v) far q).1 m := by
              cases q with
              | nil => simp at hh
              | cons z zs =>
                have hbz : b = z := by simpa using hb.symm
                subst hbz
                rw [hold b (by simp), hold m (by simp [hh])]
                rcases List.mem_cons.1 hh with hh | hh
                · subst hh; exact Int.le_refl _
                · exact (List.pairwise_cons.1 hq.2).1 m hh
            rw [hold m hmm] at hge
            omega
      exact hcl m hmd x hr
end Go.Proofs.Ytlldjinejckbaaa.Pb

end
section
namespace Go.Proofs.Ytlldjinejckbaaa.Pf
open Go Go.RowKit Go.Proofs.YtlldjinejckbaaaW.PrintWords Go.Proofs.Ytlldjinejckbaaa.Mod Go.Proofs.Ytlldjinejckbaaa.Pg Go.Proofs.Ytlldjinejckbaaa.Pb Go.Proofs.Ytlldjinejckbaaa.Gi Go.Proofs.Ytlldjinejckbaaa.Cl Go.Proofs.Ytlldjinejckbaaa.Cy Go.Proofs.Ytlldjinejckbaaa.PD Go.Proofs.Ytlldjinejckbaaa.Ng Go.Proofs.Ytlldjinejckbaaa.Lb
set_option linter.unusedVariables false
theorem bfs_spec {n : Nat} (hn : n ≤ 1000) {rows : List (List Int)} {R : Int → Int → Prop} (hT : Tells n rows R) {s : Int} : ∀ (k : Nat) (done far q : List Int), BI n R s done far q → n < k + done.length →
    (done ++ (bfs rows k far q).map (·.1)).Nodup ∧ (∀ x ∈ bfs rows k far q, ∃ d : Nat, x.2 = (d : Int) ∧ Dist R s x.1 d ∧ d < n ∧ 0 ≤ x.1 ∧ x.1 < n) ∧ (∀ (j : Nat) (v : Int), Pa R j s v → v ∈ done ++ (bfs rows k far q).map (·.1)) ∧
    (bfs rows k far q).Pairwise (fun a b => a.2 ≤ b.2) ∧ (∀ x ∈ bfs rows k far q, ∀ b ∈ q.head?, rd far b ≤ x.2 + 1)
  | 0, done, far, q, h, hk => by
    have h1 := nodup_len h.nd h.rng
    rw [List.length_append] at h1
    omega
  | k + 1, done, far, [], h, hk => by
    have e : bfs rows (k + 1) far [] = [] := rfl
    rw [e]
    have hst := h.st
    have hcl := h.cl
    have hnd := h.nd
    rw [List.append_nil] at hst hnd
    refine ⟨by simpa using hnd, fun x hx => by simp at hx, ?_, List.Pairwise.nil, fun x hx => by simp at hx⟩
    intro j
    rw [List.map_nil, List.append_nil]
    induction j with
    | zero => intro v hv; cases hv; exact hst
    | succ j ih => rintro v ⟨m, hm, hr⟩; simpa using hcl m (ih m hm) v hr
  | k + 1, done, far, v :: q, h, hk => by
    have hs := h.step hn hT
    obtain ⟨a, b, c, d, e⟩ := bfs_spec hn hT k _ _ _ hs (by rw [List.length_append]; simp only [List.length_cons, List.length_nil]; omega)
    have hvm : v ∈ done ++ v :: q := by simp
    obtain ⟨dv, e1, e2, e3⟩ := h.dist v hvm
    have hlen := nodup_len h.nd h.rng
    have hw : wrap64 (rd far v - 1) = (dv : Int) := by rw [Po.wrap_small (by omega) (by omega)]; omega
    show (done ++ (((v, wrap64 (rd far v - 1)) :: bfs rows k (relax v (row rows v) far q).1 (relax v (row rows v) far q).2) : List (Int × Int)).map (·.1)).Nodup ∧ (∀ x ∈ (((v, wrap64 (rd far v - 1)) :: bfs rows k (relax v (row rows v) far q).1 (relax v (row rows v) far q).2) : List (Int × Int)), _) ∧ (∀ (j : Nat) (w : Int), Pa R j s w → w ∈ done ++ (((v, wrap64 (rd far v - 1)) :: bfs rows k (relax v (row rows v) far q).1 (relax v (row rows v) far q).2) : List (Int × Int)).map (·.1)) ∧
      (((v, wrap64 (rd far v - 1)) :: bfs rows k (relax v (row rows v) far q).1 (relax v (row rows v) far q).2) : List (Int × Int)).Pairwise (fun a b => a.2 ≤ b.2) ∧ (∀ x ∈ (((v, wrap64 (rd far v - 1)) :: bfs rows k (relax v (row rows v) far q).1 (relax v (row rows v) far q).2) : List (Int × Int)), _)
    rw [hw]
    generalize hB : bfs rows k (relax v (row rows v) far q).1 (relax v (row rows v) far q).2 = B at a b c d e
    have e4 : done ++ List.map (·.1) ((v, (dv : Int)) :: B) = done ++ [v] ++ B.map (·.1) := by simp
    rw [e4]
    have hall : ∀ x ∈ B, rd far v ≤ x.2 + 1 := by
      intro x hx
      have hvd : v ∈ done ++ [v] := by simp
      have hv2 := hs.dist v (List.mem_append_left _ hvd)
      obtain ⟨d2, f1, f2, _⟩ := hv2
      have := f2.eq e2
      cases hq : (relax v (row rows v) far q).2 with
      | nil => rw [hq] at hB; cases k <;> (rw [← hB] at hx; simp [bfs] at hx)
      | cons z zs =>
        have h1 := e x hx z (by rw [hq]; simp)
        have h2 := hs.old v hvd z (by rw [hq]; simp)
        omega
    refine ⟨a, fun x hx => ?_, c, List.pairwise_cons.2 ⟨fun x hx => ?_, d⟩, fun x hx b hb => ?_⟩
    · rcases List.mem_cons.1 hx with hx | hx
      · subst hx; exact ⟨dv, rfl, e2, by omega, (h.rng v hvm).1, (h.rng v hvm).2⟩
      · exact b x hx
    · have := hall x hx
      show (dv : Int) ≤ x.2
      omega
    · have hbv : b = v := by simpa using hb.symm
      subst hbv
      rcases List.mem_cons.1 hx with hx | hx
      · subst hx; show _ ≤ (dv : Int) + 1; omega
      · exact hall x hx
theorem BI.start {n : Nat} {R : Int → Int → Prop} {s : Int} (h0 : 0 ≤ s) (h1 : s < n) : BI n R s [] ((List.replicate n 0).set s.toNat 1) [s] := by
  have hr : ∀ x : Int, rd (List.replicate n 0) x = 0 := fun x => by unfold rd; rw [List.getD_eq_getElem?_getD]; cases h : (List.replicate n (0 : Int))[x.toNat]? with
    | none => rfl
    | some v => have := List.mem_of_getElem? h; simp at this; simp [this]
  have hs : rd ((List.replicate n 0).set s.toNat 1) s = 1 := rd_set_same _ _ _ h0 (by simpa using h1)
  have hD : Dist R s s 0 := ⟨rfl, fun k hk => by omega⟩
  refine ⟨by simp, by simp, fun v hv => by simp at hv; subst hv; exact ⟨h0, h1⟩, fun v v0 v1 => ?_, fun v hv => ?_, fun v hv => by simp at hv, by simp, by simp, fun a ha b hb => ?_, fun a ha => by simp at ha, fun b hb k x hp hk => ?_⟩
  · by_cases e : v = s
    · subst e; rw [hs]; simp
    · rw [rd_set_other _ _ _ _ v0 h0 e, hr]; simp [e]
  · have : v = s := by simpa using hv
    subst this
    exact ⟨0, by rw [hs]; rfl, hD, by simp⟩
  · have : a = s := by simpa using ha
    subst this
    have : b = a := by simpa using hb.symm
    subst this
    omega
  · have : b = s := by simpa using hb.symm
    subst this
    rw [hs] at hk
    have : k = 0 := by omega
    subst this
    cases hp
    simp
structure FromS (n : Nat) (R : Int → Int → Prop) (s : Int) (P : List (Int × Int)) : Prop where
  nd : (P.map (·.1)).Nodup
  dist : ∀ x ∈ P, ∃ d : Nat, x.2 = (d : Int) ∧ Dist R s x.1 d ∧ d < n ∧ 0 ≤ x.1 ∧ x.1 < n
  all : ∀ (j : Nat) (v : Int), Pa R j s v → v ∈ P.map (·.1)
  mono : P.Pairwise (fun a b => a.2 ≤ b.2)
theorem from_spec {n : Nat} (hn : n ≤ 1000) {rows : List (List Int)} {R : Int → Int → Prop} (hT : Tells n rows R) {s : Int} (h0 : 0 ≤ s) (h1 : s < n) : FromS n R s (fromOf rows s) := by
  unfold fromOf
  rw [hT.len]
  obtain ⟨a, b, c, d, e⟩ := bfs_spec hn hT (n + 1) [] _ _ (BI.start h0 h1) (by simp)
  exact ⟨by simpa using a, b, fun j v hp => by simpa using c j v hp, d⟩
theorem FromS.get {n : Nat} {R : Int → Int → Prop} {s : Int} {P : List (Int × Int)} (h : FromS n R s P) {v : Int} {d : Nat} (hd : Dist R s v d) : (v, (d : Int)) ∈ P := by
  obtain ⟨x, hx, e⟩ := List.mem_map.1 (h.all d v hd.1)
  obtain ⟨d', e1, e2, _⟩ := h.dist x hx
  rw [e] at e2
  have := e2.eq hd
  subst this
  rw [← e1, ← e]; exact hx
def Loop (R : Int → Int → Prop) (v : Int) (g : Nat) : Prop := 1 ≤ g ∧ Pa R g v v ∧ ∀ k, 1 ≤ k → k < g → ¬ Pa R k v v
theorem girth_spec {n : Nat} (hn : n ≤ 1000) {rows : List (List Int)} {R : Int → Int → Prop} (hT : Tells n rows R) {v : Int} (h0 : 0 ≤ v) (h1 : v < n) :
    (girthOf rows v = 0 ∧ ∀ k, 1 ≤ k → ¬ Pa R k v v) ∨ ∃ g : Nat, girthOf rows v = (g : Int) ∧ g ≤ n ∧ Loop R v g := by
  have hF := from_spec hn hT h0 h1
  unfold girthOf
  cases hf : (fromOf rows v).find? (fun x => (row rows x.1).contains v) with
  | none =>
    refine .inl ⟨rfl, fun k hk hp => ?_⟩
    obtain ⟨k', rfl⟩ : ∃ k', k = k' + 1 := ⟨k - 1, by omega⟩
    obtain ⟨m, hm, hr⟩ := hp
    obtain ⟨x, hx, e⟩ := List.mem_map.1 (hF.all k' m hm)
    have := List.find?_eq_none.1 hf x hx
    obtain ⟨d, e1, e2, e3, e4, e5⟩ := hF.dist x hx
    rw [e] at this
    exact this (by simpa using (hT.row m v (e ▸ e4) (e ▸ e5)).2 hr)
  | some x =>
    obtain ⟨hpx, as9, bs9, hs, hno⟩ := List.find?_eq_some_iff_append.1 hf
    obtain ⟨d, e1, e2, e3, e4, e5⟩ := hF.dist x (by rw [hs]; simp)
    have hx1 : R x.1 v := (hT.row x.1 v e4 e5).1 (by simpa using hpx)
    refine .inr ⟨d + 1, ?_, by omega, by omega, ⟨x.1, e2.1, hx1⟩, fun k hk hkd hp => ?_⟩
    · show wrap64 (x.2 + 1) = _
      rw [Po.wrap_small (by omega) (by omega)]; omega
    · obtain ⟨k', rfl⟩ : ∃ k', k = k' + 1 := ⟨k - 1, by omega⟩
      obtain ⟨m, hm, hr⟩ := hp
      obtain ⟨y, hy, e⟩ := List.mem_map.1 (hF.all k' m hm)
      obtain ⟨dy, f1, f2, f3, f4, f5⟩ := hF.dist y hy
      have hle := f2.le (e.symm ▸ hm)
      have hm2 := hF.mono
      rw [hs, List.pairwise_append] at hm2
      rw [hs] at hy
      rcases List.mem_append.1 hy with hy | hy
      · have := hno y hy
        have h3 : v ∈ row rows y.1 := (hT.row y.1 v f4 f5).2 (e ▸ hr)
        simp [h3] at this
      · rcases List.mem_cons.1 hy with hy | hy
        · subst hy; omega
        · have := (List.pairwise_cons.1 hm2.2.1).1 y hy
          omega
structure Least (n : Nat) (R : Int → Int → Prop) (best first : Int) (k : Nat) : Prop where
  none_ : best = 0 → ∀ v : Int, 0 ≤ v → v < k → ∀ j, 1 ≤ j → ¬ Pa R j v v
  some_ : best ≠ 0 → ∃ g : Nat, best = (g : Int) ∧ g ≤ n ∧ 0 ≤ first ∧ first < k ∧ Loop R first g ∧ (∀ v : Int, 0 ≤ v → v < k → ∀ j, 1 ≤ j → j < g → ¬ Pa R j v v) ∧ ∀ v : Int, 0 ≤ v → v < first → ¬ Pa R g v v
theorem least1_spec {n : Nat} (hn : n ≤ 1000) {rows : List (List Int)} {R : Int → Int → Prop} (hT : Tells n rows R) : ∀ k, k ≤ n → Least n R (least1 rows k).1 (least1 rows k).2 k
  | 0, _ => ⟨fun _ v h0 h1 => by omega, fun h => absurd rfl h⟩
  | k + 1, hk => by
    have ih := least1_spec hn hT k (by omega)
    rw [least1_succ]
    generalize least1 rows k = s at ih
    obtain ⟨best, first⟩ := s
    have hg := girth_spec hn hT (v := (k : Int)) (by omega) (by omega)
    unfold pick1
    have hcase : ∀ v : Int, v < (k + 1 : Nat) → v < k ∨ v = k := fun v hv => by omega
    rcases hg with ⟨hg, hno⟩ | ⟨g, hg, hgn, hL⟩
    · rw [hg, if_neg (by omega)]
      refine ⟨fun hb v h0 h1 j hj => ?_, fun hb => ?_⟩
      · rcases hcase v h1 with h | h
        · exact ih.none_ hb v h0 h j hj
        · subst h; exact hno j hj
      · obtain ⟨g, a, b, c, d, e, f, i⟩ := ih.some_ hb
        refine ⟨g, a, b, c, by omega, e, fun v h0 h1 j hj hjg => ?_, i⟩
        rcases hcase v h1 with h | h
        · exact f v h0 h j hj hjg
        · subst h; exact hno j hj
    · have hg0 : 0 < (g : Int) := by have := hL.1; omega
      rw [hg]
      by_cases hc : 0 < (g : Int) ∧ (best = 0 ∨ (g : Int) < best)
      · rw [if_pos hc]
        refine ⟨fun hb => by have : (g : Int) = 0 := hb; omega, fun _ => ⟨g, rfl, hgn, by show (0 : Int) ≤ (k : Int); omega, by show (k : Int) < _; omega, hL, fun v h0 h1 j hj hjg => ?_, fun v h0 h1 => ?_⟩⟩
        · rcases hcase v h1 with h | h
          · rcases hc.2 with hb | hb
            · exact ih.none_ hb v h0 h j hj
            · obtain ⟨g', a, b, c, d, e, f, i⟩ := ih.some_ (show best ≠ 0 by omega)
              have a' : best = (g' : Int) := a
              exact f v h0 h j hj (by omega)
          · subst h; exact hL.2.2 j hj hjg
        · rcases hc.2 with hb | hb
          · exact ih.none_ hb v h0 h1 g hL.1
          · obtain ⟨g', a, b, c, d, e, f, i⟩ := ih.some_ (show best ≠ 0 by omega)
            have a' : best = (g' : Int) := a
            exact f v h0 h1 g hL.1 (by omega)
      · rw [if_neg hc]
        have hb0 : best ≠ 0 := fun hb => hc ⟨hg0, .inl hb⟩
        refine ⟨fun hb => absurd hb hb0, fun _ => ?_⟩
        obtain ⟨g', a, b, c, d, e, f, i⟩ := ih.some_ hb0
        have a' : best = (g' : Int) := a
        refine ⟨g', a, b, c, by omega, e, fun v h0 h1 j hj hjg => ?_, i⟩
        rcases hcase v h1 with h | h
        · exact f v h0 h j hj hjg
        · subst h; exact hL.2.2 j hj (by have : ¬ ((g : Int) < best) := fun hh => hc ⟨hg0, .inr hh⟩; omega)
theorem leftOf_spec {n : Nat} {R : Int → Int → Prop} {s : Int} : ∀ (P : List (Int × Int)) (l0 : List Int), l0.length = n → (P.map (·.1)).Nodup → (∀ x ∈ P, 0 ≤ x.1 ∧ x.1 < n) → ∀ v : Int, 0 ≤ v → v < n →
    (∀ d, (v, d) ∈ P → rd (P.foldl (fun l x => l.set x.1.toNat x.2) l0) v = d) ∧ (v ∉ P.map (·.1) → rd (P.foldl (fun l x => l.set x.1.toNat x.2) l0) v = rd l0 v)
  | [], l0, _, _, _, v, _, _ => ⟨fun d h => by simp at h, fun _ => rfl⟩
  | x :: P, l0, hl, hn, hr, v, h0, h1 => by
    rw [List.map_cons, List.nodup_cons] at hn
    obtain ⟨a, b⟩ := leftOf_spec (R := R) (s := s) P (l0.set x.1.toNat x.2) (by simpa using hl) hn.2 (fun y hy => hr y (by simp [hy])) v h0 h1
    obtain ⟨x0, x1⟩ := hr x (by simp)
    rw [List.foldl_cons]
    refine ⟨fun d hd => ?_, fun hv => ?_⟩
    · rcases List.mem_cons.1 hd with hd | hd
      · subst hd
        rw [b hn.1, rd_set_same _ _ _ h0 (by omega)]
      · exact a d hd
    · have hv' : v ≠ x.1 ∧ v ∉ P.map (·.1) := by simpa using hv
      rw [b hv'.2, rd_set_other _ _ _ _ h0 x0 hv'.1]
structure CycS (n : Nat) (R : Int → Int → Prop) (out : List Int) : Prop where
  pos : 1 ≤ out.length
  le : out.length ≤ n
  rng : ∀ v ∈ out, 0 ≤ v ∧ v < n
  nd : out.Nodup
  least : ∀ v ∈ out, rd out 0 ≤ v
  next : ∀ i : Nat, i + 1 < out.length → R (rd out i) (rd out (i + 1 : Nat))
  close : R (rd out (out.length - 1 : Nat)) (rd out 0)
  short : ∀ v : Int, 0 ≤ v → v < n → ∀ j, 1 ≤ j → j < out.length → ¬ Pa R j v v
structure Part (R : Int → Int → Prop) (first : Int) (best : Nat) (out : List Int) : Prop where
  pos : 1 ≤ out.length
  le : out.length ≤ best
  head : rd out 0 = first
  dist : ∀ i : Nat, 1 ≤ i → i < out.length → Dist R (rd out i) first (best - i)
  next : ∀ i : Nat, i + 1 < out.length → R (rd out i) (rd out (i + 1 : Nat))
theorem rd_append_left {l m : List Int} {i : Nat} (h : i < l.length) : rd (l ++ m) i = rd l i := by
  unfold rd
  rw [List.getD_eq_getElem?_getD, List.getD_eq_getElem?_getD, List.getElem?_append_left (by simpa using h)]
theorem rd_append_len {l : List Int} {x : Int} : rd (l ++ [x]) (l.length : Nat) = x := by
  unfold rd
  rw [List.getD_eq_getElem?_getD, List.getElem?_append_right (by simp)]
  simp
theorem cycGo_spec {n : Nat} {rows : List (List Int)} {R : Int → Int → Prop} (hT : Tells n rows R) {first : Int} {best : Nat} (hbn : best ≤ 1000) (hL : Loop R first best) (f0 : 0 ≤ first) (f1 : first < n) {left : List Int}
    (hleft : ∀ y : Int, 0 ≤ y → y < n → ∀ d : Nat, Dist R y first d → rd left y = (d : Int)) (hleft0 : ∀ y : Int, 0 ≤ y → y < n → rd left y ≠ 0 → ∃ d : Nat, rd left y = (d : Int) ∧ Dist R y first d) :
    ∀ (k : Nat) (out : List Int), Part R first best out → best ≤ k + out.length → (∀ v ∈ out, 0 ≤ v ∧ v < (n : Int)) → ∃ r, cycGo rows left first best k out = some r ∧ Part R first best r ∧ r.length = best ∧ ∀ v ∈ r, 0 ≤ v ∧ v < (n : Int)
  | 0, out, hp, hk, hrng => by
    have h1 := hp.le
    refine ⟨out, ?_, hp, by omega, hrng⟩
    unfold cycGo
    rw [if_neg (by omega)]
  | k + 1, out, hp, hk, hrng => by
    have h1 := hp.le
    unfold cycGo
    by_cases hc : (out.length : Int) < (best : Int)
    · rw [if_pos hc]
      have hpos := hp.pos
      have hlast : ∃ m, R (lastOf out) m ∧ Dist R m first (best - out.length) := by
        by_cases h2 : out.length = 1
        · have e : lastOf out = first := by unfold lastOf; rw [h2]; exact hp.head
          obtain ⟨l0, l1, l2⟩ := hL
          obtain ⟨b, rfl⟩ : ∃ b, best = 1 + b := ⟨best - 1, by omega⟩
          obtain ⟨m, ⟨a, ha, hr⟩, hm2⟩ := Pa.split l1
          cases ha
          rw [e, h2]
          refine ⟨m, hr, ⟨by rw [Nat.add_sub_cancel_left]; exact hm2, fun j hj hpj => ?_⟩⟩
          exact l2 (1 + j) (by omega) (by omega) ((Pa.one hr).add hpj)
        · have h3 := hp.dist (out.length - 1) (by omega) (by omega)
          have e : best - (out.length - 1) = best - out.length + 1 := by omega
          rw [e] at h3
          obtain ⟨m, hr, hm⟩ := h3.next
          refine ⟨m, ?_, hm⟩
          have e2 : lastOf out = rd out ((out.length - 1 : Nat) : Int) := by
            unfold lastOf
            congr 1
            omega
          rw [e2]; exact hr
      obtain ⟨m, hr, hm⟩ := hlast
      have hlm : lastOf out ∈ out := by
        unfold lastOf rd
        rw [List.getD_eq_getElem?_getD, List.getElem?_eq_getElem (by omega)]
        exact List.getElem_mem _
      obtain ⟨q0, q1⟩ := hrng _ hlm
      have hw : wrap64 ((best : Int) - (out.length : Int)) = ((best - out.length : Nat) : Int) := by rw [Po.wrap_small (by omega) (by omega)]; omega
      cases hf : (row rows (lastOf out)).find? (hits left first best out.length) with
      | none =>
        have h5 := List.find?_eq_none.1 hf m ((hT.row _ m q0 q1).2 hr)
        obtain ⟨_, _, m0, m1⟩ := hT.ok _ _ hr
        exfalso
        apply h5
        unfold hits
        have hne : m ≠ first := fun e => by subst e; exact hm.2 0 (by omega) rfl
        rw [hleft m m0 m1 _ hm, hw]
        simp [hne]
      | some y =>
        have hy := List.mem_of_find?_eq_some hf
        have hyp := List.find?_some hf
        have hRy := (hT.row _ y q0 q1).1 hy
        obtain ⟨_, _, y0, y1⟩ := hT.ok _ _ hRy
        unfold hits at hyp
        rw [hw] at hyp
        have hyp' : y ≠ first ∧ rd left y = ((best - out.length : Nat) : Int) := by simpa using hyp
        obtain ⟨d, e1, e2⟩ := hleft0 y y0 y1 (by rw [hyp'.2]; omega)
        have hd : d = best - out.length := by have := hyp'.2; omega
        subst hd
        refine cycGo_spec hT hbn hL f0 f1 hleft hleft0 k (out ++ [y]) ⟨by simp, by simp; omega, ?_, fun i hi hil => ?_, fun i hi => ?_⟩ (by simp; omega) (fun v hv => ?_)
        · have := rd_append_left (l := out) (m := [y]) (i := 0) (by omega)
          exact this.trans hp.head
        · rw [List.length_append] at hil
          simp only [List.length_cons, List.length_nil] at hil
          by_cases h6 : i < out.length
          · rw [rd_append_left h6]; exact hp.dist i hi h6
          · have : i = out.length := by omega
            subst this
            rw [rd_append_len]; exact e2
        · rw [List.length_append] at hi
          simp only [List.length_cons, List.length_nil] at hi
          by_cases h6 : i + 1 < out.length
          · rw [rd_append_left h6, rd_append_left (by omega)]; exact hp.next i h6
          · have e3 : i + 1 = out.length := by omega
            have e4 : lastOf out = rd out (i : Int) := by unfold lastOf; congr 1; omega
            rw [rd_append_left (by omega), e3, rd_append_len, ← e4]
            exact hRy
        · rcases List.mem_append.1 hv with hv | hv
          · exact hrng v hv
          · rw [List.mem_singleton] at hv; subst hv; exact ⟨y0, y1⟩
    · rw [if_neg hc]
      exact ⟨out, rfl, hp, by omega, hrng⟩
theorem mem_rd {l : List Int} {v : Int} (h : v ∈ l) : ∃ i : Nat, i < l.length ∧ rd l i = v := by
  obtain ⟨i, hi, e⟩ := List.getElem_of_mem h
  refine ⟨i, hi, ?_⟩
  unfold rd
  rw [List.getD_eq_getElem?_getD, Int.toNat_natCast, List.getElem?_eq_getElem hi]
  exact e
theorem Part.path {R : Int → Int → Prop} {first : Int} {best : Nat} {out : List Int} (h : Part R first best out) : ∀ i : Nat, i < out.length → Pa R i first (rd out i)
  | 0, _ => h.head.symm
  | i + 1, hi => ⟨_, h.path i (by omega), h.next i hi⟩
theorem Part.done {n : Nat} {R : Int → Int → Prop} {first : Int} {best : Nat} {out : List Int} (h : Part R first best out) (hb : out.length = best) (hbn : best ≤ n) (hL : Loop R first best) (hr : ∀ v ∈ out, 0 ≤ v ∧ v < (n : Int))
    (hs : ∀ v : Int, 0 ≤ v → v < n → ∀ j, 1 ≤ j → j < best → ¬ Pa R j v v) (hf : ∀ v : Int, 0 ≤ v → v < first → ¬ Pa R best v v) : CycS n R out := by
  have hd : ∀ i : Nat, i < out.length → ∃ k : Nat, Dist R (rd out i) first k ∧ k = (if i = 0 then 0 else best - i) := fun i hi => by
    by_cases e : i = 0
    · subst e
      refine ⟨0, ⟨h.head, fun k hk => by omega⟩, by simp⟩
    · exact ⟨best - i, h.dist i (by omega) hi, by rw [if_neg e]⟩
  refine ⟨h.pos, by omega, hr, ?_, fun v hv => ?_, h.next, ?_, fun v h0 h1 j hj hjb => hs v h0 h1 j hj (by omega)⟩
  · rw [List.nodup_iff_pairwise_ne, List.pairwise_iff_getElem]
    intro i j hi hj hij e
    have ei : rd out i = out[i] := by unfold rd; rw [List.getD_eq_getElem?_getD, Int.toNat_natCast, List.getElem?_eq_getElem hi]; rfl
    have ej : rd out j = out[j] := by unfold rd; rw [List.getD_eq_getElem?_getD, Int.toNat_natCast, List.getElem?_eq_getElem hj]; rfl
    obtain ⟨a, ha, ka⟩ := hd i hi
    obtain ⟨b, hb2, kb⟩ := hd j hj
    rw [ei] at ha
    rw [ej, ← e] at hb2
    have := ha.eq hb2
    rw [if_neg (by omega)] at kb
    split at ka <;> omega
  · obtain ⟨i, hi, e⟩ := mem_rd hv
    rw [h.head]
    refine Classical.byContradiction fun hlt => ?_
    have hi0 : i ≠ 0 := fun e0 => by subst e0; have := h.head; rw [← e] at hlt; simp [this] at hlt
    have h1 := h.dist i (by omega) hi
    rw [e] at h1
    have h2 := h.path i hi
    rw [e] at h2
    have h3 := h1.1.add h2
    rw [show best - i + i = best by omega] at h3
    exact hf v (hr v hv).1 (by omega) h3
  · have hz : ((0 : Nat) : Int) = 0 := rfl
    by_cases e : out.length = 1
    · rw [e]
      show R (rd out 0) (rd out 0)
      rw [h.head]
      have h2 := hL.2.1
      rw [← hb, e] at h2
      obtain ⟨m, hm, hr⟩ := h2
      cases hm; exact hr
    · have hp := h.pos
      have h1 := h.dist (out.length - 1) (by omega) (by omega)
      rw [show best - (out.length - 1) = 1 by omega] at h1
      obtain ⟨m, hm, hr⟩ := h1.1
      cases hm
      rw [h.head]; exact hr
theorem cycle_spec {n : Nat} (hn : n ≤ 1000) {l : List S55} (hl : Ok n l) :
    (cycleOf n l = some ([], 4) ∧ ∀ v : Int, 0 ≤ v → v < n → ∀ j, 1 ≤ j → ¬ Pa (E l) j v v) ∨ ∃ out, cycleOf n l = some (out, 0) ∧ CycS n (E l) out := by
  have hT := tells_nx hl
  have hB := tells_pv hl
  have hLe := least1_spec hn hT n (Nat.le_refl _)
  unfold cycleOf
  show ((if (least1 (nx n l) n).1 = 0 then some ([], 4) else if 1000000 < (least1 (nx n l) n).1 then none else
    (cycGo (nx n l) (Cy.leftOf n (fromOf (pv n l) (least1 (nx n l) n).2)) (least1 (nx n l) n).2 (least1 (nx n l) n).1 (least1 (nx n l) n).1.toNat [(least1 (nx n l) n).2]).map fun r => (r, 0)) = some ([], 4) ∧ _) ∨ _
  generalize hs : least1 (nx n l) n = s at hLe
  obtain ⟨best, first⟩ := s
  by_cases hb : best = 0
  · subst hb
    exact .inl ⟨by rw [if_pos rfl], hLe.none_ rfl⟩
  · obtain ⟨g, rfl, hgn, f0, f1, hL, hsh, hfi⟩ := hLe.some_ hb
    right
    have hF := from_spec hn hB f0 f1
    have hleft : ∀ y : Int, 0 ≤ y → y < n → ∀ d : Nat, Dist (E l) y first d → rd (Cy.leftOf n (fromOf (pv n l) first)) y = (d : Int) := fun y y0 y1 d hd =>
      (leftOf_spec (n := n) (R := E l) (s := first) (fromOf (pv n l) first) _ (by simp) hF.nd (fun x hx => by obtain ⟨_, _, _, _, a, b⟩ := hF.dist x hx; exact ⟨a, b⟩) y y0 y1).1 d (hF.get hd.flip)
    have hleft0 : ∀ y : Int, 0 ≤ y → y < n → rd (Cy.leftOf n (fromOf (pv n l) first)) y ≠ 0 → ∃ d : Nat, rd (Cy.leftOf n (fromOf (pv n l) first)) y = (d : Int) ∧ Dist (E l) y first d := fun y y0 y1 hne => by
      by_cases hm : y ∈ (fromOf (pv n l) first).map (·.1)
      · obtain ⟨x, hx, e⟩ := List.mem_map.1 hm
        obtain ⟨d, e1, e2, _⟩ := hF.dist x hx
        rw [e] at e2
        have e3 : Dist (E l) y first d := e2.flip
        exact ⟨d, hleft y y0 y1 d e3, e3⟩
      · have := (leftOf_spec (n := n) (R := E l) (s := first) (fromOf (pv n l) first) (List.replicate n 0) (by simp) hF.nd (fun x hx => by obtain ⟨_, _, _, _, a, b⟩ := hF.dist x hx; exact ⟨a, b⟩) y y0 y1).2 hm
        exfalso
        apply hne
        refine this.trans ?_
        unfold rd; rw [List.getD_eq_getElem?_getD]
        cases h : (List.replicate n (0 : Int))[y.toNat]? with
        | none => rfl
        | some v => have := List.mem_of_getElem? h; simp at this; simp [this]
    obtain ⟨r, hr, hp, hrl, hrr⟩ := cycGo_spec hT (by omega) hL f0 f1 hleft hleft0 g [first] ⟨by simp, by simpa using hL.1, rfl, fun i hi hil => by simp at hil; omega, fun i hi => by simp at hi⟩ (by simp) (fun v hv => by simp at hv; subst hv; exact ⟨f0, f1⟩)
    refine ⟨r, ?_, hp.done hrl hgn hL hrr hsh hfi⟩
    show (if (g : Int) = 0 then _ else if 1000000 < (g : Int) then none else (cycGo (nx n l) (Cy.leftOf n (fromOf (pv n l) first)) first (g : Int) (g : Int).toNat [first]).map fun r => (r, 0)) = _
    rw [if_neg hb, if_neg (by omega), Int.toNat_natCast, hr]
    rfl
end Go.Proofs.Ytlldjinejckbaaa.Pf

end
section
namespace Go.Proofs.Ytlldjinejckbaaa.PD
open Go Go.RowKit Go.Proofs.YtlldjinejckbaaaW.PrintWords Go.Proofs.YtlldjinejckbaaaW.PrintLast Go.Proofs.YtlldjinejckbaaaW.PrintMore
open Go.Proofs.Ytlldjinejckbaaa.Pg Go.Proofs.Ytlldjinejckbaaa.Pb
theorem ok_condW {n : Nat} (hn : n ≤ 12) {l : List S55} (hl : Ok n l) (hlen : l.length ≤ 1000) : 0 ≤ (n : Int) ∧ (n : Int) ≤ 1000 ∧ l.length ≤ 10000 ∧ ∀ e ∈ l, 0 ≤ e.f0 ∧ e.f0 < (n : Int) ∧ 0 ≤ e.f1 ∧ e.f1 < (n : Int) := ⟨by omega, by omega, by omega, hl⟩
theorem rdT_getW {l : List S55} {i : Nat} (h : i < l.length) : rd_T55 l (i : Int) = l[i] := by
  unfold rd_T55
  rw [Int.toNat_natCast, List.getD_eq_getElem?_getD, List.getElem?_eq_getElem h]
  rfl
theorem wrap_nextW {i : Nat} (h : i ≤ 100000) : wrap64 ((i : Int) + 1) = ((i + 1 : Nat) : Int) := by rw [wrap_ok (by omega) (by omega)]; omega
theorem edge_go {l : List S55} (hlen : l.length ≤ 1000) (u v : Int) : ∀ (d i : Nat), i + d = l.length → ∀ r : Bool, (r = true ↔ E (l.drop i) u v) → Ev (fun k => wireloomlaw05_edge.l0 k l u v i) r := by
  intro d
  induction d with
  | zero =>
    intro i hi r hr
    obtain rfl : i = l.length := by omega
    rw [List.drop_length] at hr
    have : r = false := by
      cases r
      · rfl
      · obtain ⟨e, he, _⟩ := hr.1 rfl
        simp at he
    subst this
    refine Ev.step (f := fun _ => some false) (fun k => ?_) (Ev.now _)
    simp only [wireloomlaw05_edge.l0]
    rw [if_neg (by omega)]
  | succ d ih =>
    intro i hi r hr
    have hil : i < l.length := by omega
    have e : l.drop i = l[i] :: l.drop (i + 1) := List.drop_eq_getElem_cons hil
    by_cases hc : l[i].f0 = u ∧ l[i].f1 = v
    · have : r = true := hr.2 ⟨l[i], by rw [e]; exact List.mem_cons_self, hc⟩
      subst this
      refine Ev.step (f := fun _ => some true) (fun k => ?_) (Ev.now _)
      simp only [wireloomlaw05_edge.l0]
      rw [if_pos (Int.ofNat_lt.2 hil), if_pos (Int.natCast_nonneg i), rdT_getW hil, if_pos hc.1, if_pos hc.2]
    · refine Ev.step (fun k => ?_) (ih (i + 1) (by omega) r (by
        rw [hr, e]
        constructor
        · rintro ⟨x, hx, hx2⟩
          rcases List.mem_cons.1 hx with hx | hx
          · subst hx; exact absurd hx2 hc
          · exact ⟨x, hx, hx2⟩
        · rintro ⟨x, hx, hx2⟩; exact ⟨x, List.mem_cons_of_mem _ hx, hx2⟩))
      simp only [wireloomlaw05_edge.l0]
      rw [if_pos (Int.ofNat_lt.2 hil), if_pos (Int.natCast_nonneg i), rdT_getW hil, wrap_nextW (by omega)]
      by_cases h0 : l[i].f0 = u
      · rw [if_pos h0, if_neg (fun h1 => hc ⟨h0, h1⟩)]
      · rw [if_neg h0]
theorem edge_ev {l : List S55} (hlen : l.length ≤ 1000) (u v : Int) {r : Bool} (hr : r = true ↔ E l u v) : Ev (fun k => wireloomlaw05_edge.f k l u v) r := edge_go hlen u v l.length 0 (by omega) r (by simpa using hr)
theorem rdOf_set {xs : List Bool} {i j : Int} (hi0 : 0 ≤ i) (hi1 : i < xs.length) (hj : 0 ≤ j) : rdOf false (xs.set i.toNat true) j = if j = i then true else rdOf false xs j := by
  unfold rdOf
  rw [List.getD_eq_getElem?_getD, List.getD_eq_getElem?_getD]
  by_cases e : j = i
  · subst e; rw [if_pos rfl, List.getElem?_set_self (by omega)]; rfl
  · rw [if_neg e, List.getElem?_set_ne (by omega)]
theorem rdOf_blank (n : Nat) (j : Int) : rdOf false (List.replicate n false) j = false := by
  unfold rdOf
  rw [List.getD_eq_getElem?_getD]
  cases h : (List.replicate n false)[j.toNat]? with
  | none => rfl
  | some v => have := List.mem_of_getElem? h; simp at this; simp [this]
theorem walkGoW {n : Nat} {l : List S55} (hl : Ok n l) (hlen : l.length ≤ 1000) (frm : List Bool) (hf : frm.length = n) : ∀ (d i : Nat) (acc : List Bool), i + d = l.length → acc.length = n →
    ∃ out, Ev (fun k => wireloomlaw05_walk.l0 k frm acc i n l) out ∧ out.length = n ∧ ∀ y : Int, 0 ≤ y → (rdOf false out y = true ↔ rdOf false acc y = true ∨ ∃ x, rdOf false frm x = true ∧ E (l.drop i) x y) := by
  intro d
  induction d with
  | zero =>
    intro i acc hi ha
    obtain rfl : i = l.length := by omega
    refine ⟨acc, Ev.step (f := fun _ => some acc) (fun k => ?_) (Ev.now _), ha, fun y hy => ?_⟩
    · simp only [wireloomlaw05_walk.l0]
      rw [if_neg (by omega)]
    · rw [List.drop_length]
      exact ⟨.inl, fun h => h.resolve_right (fun ⟨x, _, e, he, _⟩ => by simp at he)⟩
  | succ d ih =>
    intro i acc hi ha
    have hil : i < l.length := by omega
    have e : l.drop i = l[i] :: l.drop (i + 1) := List.drop_eq_getElem_cons hil
    obtain ⟨o1, o2, o3, o4⟩ := hl l[i] (List.getElem_mem hil)
    by_cases hc : rdOf false frm l[i].f0 = true
    · obtain ⟨out, h1, h2, h3⟩ := ih (i + 1) (acc.set l[i].f1.toNat true) (by omega) (by simpa using ha)
      refine ⟨out, Ev.step (fun k => ?_) h1, h2, fun y hy => ?_⟩
      · simp only [wireloomlaw05_walk.l0]
        rw [if_pos (Int.ofNat_lt.2 hil), if_pos (Int.natCast_nonneg i), rdT_getW hil, if_pos o1, if_pos (by rw [hf]; exact o2), if_pos hc, if_pos o3, if_pos (by rw [ha]; exact o4), wrap_nextW (by omega)]
      · rw [h3 y hy, rdOf_set o3 (by rw [ha]; exact o4) hy, e]
        constructor
        · rintro (h | ⟨x, hx, z, hz, hz2⟩)
          · by_cases ey : y = l[i].f1
            · exact .inr ⟨l[i].f0, hc, l[i], List.mem_cons_self, rfl, ey.symm⟩
            · rw [if_neg ey] at h; exact .inl h
          · exact .inr ⟨x, hx, z, List.mem_cons_of_mem _ hz, hz2⟩
        · rintro (h | ⟨x, hx, z, hz, hz2⟩)
          · by_cases ey : y = l[i].f1
            · exact .inl (by rw [if_pos ey])
            · exact .inl (by rw [if_neg ey]; exact h)
          · rcases List.mem_cons.1 hz with hz | hz
            · subst hz; exact .inl (by rw [if_pos hz2.2.symm])
            · exact .inr ⟨x, hx, z, hz, hz2⟩
    · obtain ⟨out, h1, h2, h3⟩ := ih (i + 1) acc (by omega) ha
      refine ⟨out, Ev.step (fun k => ?_) h1, h2, fun y hy => ?_⟩
      · simp only [wireloomlaw05_walk.l0]
        rw [if_pos (Int.ofNat_lt.2 hil), if_pos (Int.natCast_nonneg i), rdT_getW hil, if_pos o1, if_pos (by rw [hf]; exact o2), if_neg hc, wrap_nextW (by omega)]
      · rw [h3 y hy, e]
        constructor
        · rintro (h | ⟨x, hx, z, hz, hz2⟩)
          · exact .inl h
          · exact .inr ⟨x, hx, z, List.mem_cons_of_mem _ hz, hz2⟩
        · rintro (h | ⟨x, hx, z, hz, hz2⟩)
          · exact .inl h
          · rcases List.mem_cons.1 hz with hz | hz
            · subst hz; rw [hz2.1] at hc; exact absurd hx hc
            · exact .inr ⟨x, hx, z, hz, hz2⟩
theorem walk_ev {n : Nat} (hn : n ≤ 12) {l : List S55} (hl : Ok n l) (hlen : l.length ≤ 1000) (frm : List Bool) (hf : frm.length = n) :
    ∃ out, Ev (fun k => wireloomlaw05_walk.f k n l frm) out ∧ out.length = n ∧ ∀ y : Int, 0 ≤ y → (rdOf false out y = true ↔ ∃ x, rdOf false frm x = true ∧ E l x y) := by
  obtain ⟨out, h1, h2, h3⟩ := walkGoW hl hlen frm hf l.length 0 (List.replicate n false) (by omega) (by simp)
  refine ⟨out, ?_, h2, fun y hy => ?_⟩
  · refine Ev.congr (fun k => ?_) h1
    unfold wireloomlaw05_walk.f
    rw [if_pos (by omega), Int.toNat_natCast, if_pos (by omega)]
    rfl
  · rw [h3 y hy, rdOf_blank]
    simp
theorem cycle_atW {n : Nat} (hn : n ≤ 12) {l : List S55} (hl : Ok n l) (hlen : l.length ≤ 1000) : wireloomlaw05_cycle.f n l = Cy.cycleOf n l := by
  unfold wireloomlaw05_cycle.f digraph_Cycle.f
  rw [if_pos (ok_condW hn hl hlen), Int.toNat_natCast]
  cases Cy.cycleOf n l <;> rfl
end Go.Proofs.Ytlldjinejckbaaa.PD

end
section
namespace Go.Proofs.Ytlldjinejckbaaa.PD
open Go Go.RowKit Go.Proofs.YtlldjinejckbaaaW.PrintWords Go.Proofs.YtlldjinejckbaaaW.PrintLast Go.Proofs.YtlldjinejckbaaaW.PrintMore
open Go.Proofs.Ytlldjinejckbaaa.Pg Go.Proofs.Ytlldjinejckbaaa.Pb Go.Proofs.Ytlldjinejckbaaa.Pf
theorem cyc_l1 {n : Nat} (hn : n ≤ 12) {l : List S55} (hl : Ok n l) (hlen : l.length ≤ 30) (m : Nat) (hm : m ≤ 20) (v : Nat) (hv : v < n) (hno : ∀ j, 1 ≤ j → j < m → ¬ Pa (E l) j v v) {out : List Int} {z : Int}
    (h : Ev (fun k => wireloomlaw05_DigraphCycles.l0 k true m ((v + 1 : Nat) : Int) n l out z) true) : ∀ (d j : Nat) (at_ : List Bool), m ≤ j + 1 + d → at_.length = n → (∀ y : Int, 0 ≤ y → (rdOf false at_ y = true ↔ Pa (E l) j v y)) →
    Ev (fun k => wireloomlaw05_DigraphCycles.l1 k true m v at_ ((j + 1 : Nat) : Int) n l out z) true := by
  intro d
  induction d with
  | zero =>
    intro j at_ hj ha hat
    refine Ev.step (fun k => ?_) h
    simp only [wireloomlaw05_DigraphCycles.l1]
    rw [if_neg (by omega), wrap_nextW (by omega)]
  | succ d ih =>
    intro j at_ hj ha hat
    by_cases hc : j + 1 < m
    · obtain ⟨o, h1, h2, h3⟩ := walk_ev hn hl (by omega) at_ ha
      have h4 : ∀ y : Int, 0 ≤ y → (rdOf false o y = true ↔ Pa (E l) (j + 1) v y) := fun y hy => by
        rw [h3 y hy]
        constructor
        · rintro ⟨x, hx, hE⟩
          exact ⟨x, (hat x (hE.ok hl).1).1 hx, hE⟩
        · rintro ⟨x, hx, hE⟩
          exact ⟨x, (hat x (hE.ok hl).1).2 hx, hE⟩
      refine Ev.step (f := fun k => (wireloomlaw05_walk.f k n l at_).bind fun t523 => if 0 ≤ (v : Int) then (if (v : Int) < (t523.length : Int) then (if rdOf false t523 v = true then none else wireloomlaw05_DigraphCycles.l1 k true m v t523 (wrap64 (((j + 1 : Nat) : Int) + 1)) n l out z) else none) else none) (fun k => ?_) (Ev.bind h1 ?_)
      · simp only [wireloomlaw05_DigraphCycles.l1]
        rw [if_pos (by omega)]
      · have hnv : ¬ rdOf false o (v : Int) = true := fun hh => hno (j + 1) (by omega) hc ((h4 v (by omega)).1 hh)
        refine Ev.congr (fun k => ?_) (ih (j + 1) o (by omega) h2 h4)
        rw [if_pos (by omega), if_pos (by omega), if_neg hnv, wrap_nextW (by omega)]
    · refine Ev.step (fun k => ?_) h
      simp only [wireloomlaw05_DigraphCycles.l1]
      rw [if_neg (by omega), wrap_nextW (by omega)]
theorem cyc_l0 {n : Nat} (hn : n ≤ 12) {l : List S55} (hl : Ok n l) (hlen : l.length ≤ 30) (m : Nat) (hm : m ≤ 20) (hno : ∀ v : Int, 0 ≤ v → v < n → ∀ j, 1 ≤ j → j < m → ¬ Pa (E l) j v v) {out : List Int} {z : Int}
    (h : Ev (fun k => wireloomlaw05_DigraphCycles.l2 k true 0 n l out z) true) : ∀ (d v : Nat), v + d = n → Ev (fun k => wireloomlaw05_DigraphCycles.l0 k true m v n l out z) true := by
  intro d
  induction d with
  | zero =>
    intro v hv
    refine Ev.step (fun k => ?_) h
    simp only [wireloomlaw05_DigraphCycles.l0]
    rw [if_neg (by omega)]
  | succ d ih =>
    intro v hv
    refine Ev.step (fun k => ?_) (cyc_l1 hn hl hlen m hm v (by omega) (hno v (by omega) (by omega)) (ih (v + 1) (by omega)) m 0 ((List.replicate n false).set v true) (by omega) (by simp) (fun y hy => ?_))
    · simp only [wireloomlaw05_DigraphCycles.l0]
      rw [if_pos (by omega), if_pos (by omega), if_pos (by omega), Option.bind_some, if_pos (by omega), if_pos (by simp; omega)]
      rfl
    · have := rdOf_set (xs := List.replicate n false) (i := (v : Int)) (j := y) (by omega) (by simp; omega) hy
      rw [Int.toNat_natCast] at this
      rw [this, rdOf_blank]
      by_cases e : y = (v : Int)
      · rw [if_pos e]; exact ⟨fun _ => e.symm, fun _ => rfl⟩
      · rw [if_neg e]; exact ⟨fun hh => by simp at hh, fun hh => absurd hh.symm e⟩
theorem cyc_l3 {n : Nat} {l : List S55} {out : List Int} (hol : out.length ≤ 12) (hnd : out.Nodup) {z : Int} (i : Nat) (hi : i < out.length) (h : Ev (fun k => wireloomlaw05_DigraphCycles.l2 k true ((i + 1 : Nat) : Int) n l out z) true) : ∀ (d j : Nat), j + d = i → Ev (fun k => wireloomlaw05_DigraphCycles.l3 k true i j n l out z) true := by
  intro d
  induction d with
  | zero =>
    intro j hj
    refine Ev.step (fun k => ?_) h
    simp only [wireloomlaw05_DigraphCycles.l3]
    rw [if_neg (by omega), wrap_nextW (by omega)]
  | succ d ih =>
    intro j hj
    refine Ev.step (fun k => ?_) (ih (j + 1) (by omega))
    have hne : ¬ rd out (j : Int) = rd out (i : Int) := by
      unfold rd
      rw [List.getD_eq_getElem?_getD, List.getD_eq_getElem?_getD, Int.toNat_natCast, Int.toNat_natCast, List.getElem?_eq_getElem (by omega), List.getElem?_eq_getElem hi]
      exact List.pairwise_iff_getElem.1 (List.nodup_iff_pairwise_ne.1 hnd) j i (by omega) hi (by omega)
    simp only [wireloomlaw05_DigraphCycles.l3]
    rw [if_pos (by omega), if_pos (by omega), if_pos (by omega), if_pos (by omega), if_pos (by omega), if_neg hne, wrap_nextW (by omega)]
theorem cyc_l2 {n : Nat} {l : List S55} (hlen : l.length ≤ 30) {out : List Int} (hol : out.length ≤ 12) (hc : out = [] ∨ CycS n (E l) out) {z : Int} : ∀ (d i : Nat), i + d = out.length → Ev (fun k => wireloomlaw05_DigraphCycles.l2 k true i n l out z) true := by
  intro d
  induction d with
  | zero =>
    intro i hi
    refine Ev.step (f := fun _ => some true) (fun k => ?_) (Ev.now _)
    simp only [wireloomlaw05_DigraphCycles.l2]
    rw [if_neg (by omega)]
  | succ d ih =>
    intro i hi
    have hC : CycS n (E l) out := hc.resolve_left (fun e => by subst e; simp at hi)
    have hi' : i < out.length := by omega
    have hle : ¬ rd out (i : Int) < rd out 0 := by
      have hm : rd out (i : Int) ∈ out := by
        unfold rd
        rw [List.getD_eq_getElem?_getD, Int.toNat_natCast, List.getElem?_eq_getElem hi']
        exact List.getElem_mem _
      have := hC.least _ hm
      omega
    obtain ⟨q, hq, hq1, hE⟩ : ∃ q : Nat, Int.tmod (wrap64 ((i : Int) + 1)) (out.length : Int) = (q : Int) ∧ q < out.length ∧ E l (rd out i) (rd out q) := by
      rw [wrap_nextW (by omega)]
      by_cases e : i + 1 < out.length
      · refine ⟨i + 1, ?_, e, hC.next i e⟩
        rw [Int.tmod_eq_emod_of_nonneg (by omega)]
        exact Int.emod_eq_of_lt (by omega) (by omega)
      · refine ⟨0, ?_, by omega, ?_⟩
        · have : i + 1 = out.length := by omega
          rw [this, Int.tmod_self]; rfl
        · have : i = out.length - 1 := by omega
          rw [this]; exact hC.close
    refine Ev.step (f := fun k => (wireloomlaw05_edge.f k l (rd out i) (rd out q)).bind fun t531 => if t531 = true then wireloomlaw05_DigraphCycles.l3 k true i 0 n l out z else none) (fun k => ?_) (Ev.bind (edge_ev (by omega) _ _ (r := true) ⟨fun _ => hE, fun _ => rfl⟩) ?_)
    · simp only [wireloomlaw05_DigraphCycles.l2]
      rw [if_pos (by omega), if_pos (by omega), if_pos (by omega), if_neg hle, if_neg (by omega), hq, if_pos (by omega), if_pos (by omega)]
    · refine Ev.congr (fun k => ?_) (cyc_l3 hol hC.nd i hi' (ih (i + 1) (by omega)) i 0 (by omega))
      rw [if_pos rfl]
      rfl
theorem cycles_pure (a b : Int) (ha : 0 ≤ a) (hb : 0 ≤ b) (B : List Int) (hB : ∀ x ∈ B, 0 ≤ x ∧ x ≤ 255) : ∃ k, wireloomlaw05_DigraphCycles.f k a b B = some true := by
  obtain ⟨n, l, hmade, hn, hl, hlen⟩ := made_spec a b ha hb hB
  refine Ev.rounds (g := fun k => wireloomlaw05_DigraphCycles.f k a b B) ?_
  unfold wireloomlaw05_DigraphCycles.f
  refine Ev.bind examples_ev ?_
  simp only [if_true]
  refine Ev.bind hmade ?_
  simp only [cycle_atW hn hl (by omega)]
  rcases cycle_spec (n := n) (by omega) hl with ⟨hc, hno⟩ | ⟨out, hc, hC⟩
  · rw [hc]
    simp only [Option.bind_some]
    refine Ev.congr (f := fun k => wireloomlaw05_DigraphCycles.j0 k true ((n + 1 : Nat) : Int) n l [] 4) (fun k => ?_) ?_
    · rw [if_neg (by decide), wrap_nextW (by omega)]
    · refine Ev.step (f := fun k => wireloomlaw05_DigraphCycles.j1 k true ((n + 1 : Nat) : Int) false n l [] 4) (fun k => ?_) ?_
      · simp only [wireloomlaw05_DigraphCycles.j0]
        rw [if_neg (by decide)]
      · refine Ev.step (fun k => ?_) (cyc_l0 hn hl hlen (n + 1) (by omega) (fun v h0 h1 j hj _ => hno v h0 h1 j hj) (cyc_l2 hlen (out := []) (z := 4) (by simp) (.inl rfl) 0 0 rfl) n 0 (by omega))
        simp only [wireloomlaw05_DigraphCycles.j1]
        rw [if_neg (by decide)]
        rfl
  · rw [hc]
    simp only [Option.bind_some]
    have h1 := hC.pos
    have h2 := hC.le
    refine Ev.congr (f := fun k => wireloomlaw05_DigraphCycles.j0 k true (out.length : Int) n l out 0) (fun k => ?_) ?_
    · rw [if_pos trivial]
    · refine Ev.step (f := fun k => wireloomlaw05_DigraphCycles.j1 k true (out.length : Int) false n l out 0) (fun k => ?_) ?_
      · simp only [wireloomlaw05_DigraphCycles.j0]
        rw [if_pos trivial, if_neg (by omega), decide_eq_false (by omega)]
      · refine Ev.step (fun k => ?_) (cyc_l0 hn hl hlen out.length (by omega) (fun v h0 h1 j hj hjl => hC.short v h0 h1 j hj hjl) (cyc_l2 hlen (out := out) (z := 0) (by omega) (.inr hC) out.length 0 (by omega)) n 0 (by omega))
        simp only [wireloomlaw05_DigraphCycles.j1]
        rw [if_neg (by decide)]
        rfl
end Go.Proofs.Ytlldjinejckbaaa.PD

end
section
namespace Go.Proofs.Ytlldjinejckbaaa.Op
open Go Go.RowKit Go.Joins Go.ChangeShapes Go.WideShapes Go.Deep Go.Proofs.YtlldjinejckbaaaW.PrintWords Go.Proofs.Ytlldjinejckbaaa.PD
set_option linter.unusedVariables false
def Opens (P : Program) (t : TypeId) {α : Type} (d : Kd α) (wf : α → Prop) : Prop := ∀ (H : Type) (enc : TypeId × Value → H) (w : World) (spare : Nat → Bool) (held : Bool) (fuel : Nat) (cs : List Value) (x : DataW H × List MemPlace),
  DataW.trod enc P w 0 spare held fuel t cs = some x → ∃ a, d.K w a cs ∧ wf a
section
variable {P : Program} {t e : TypeId}
theorem opens_int {k : IntKind} (ht : P.underlying t = some (.int k)) : Opens P t (Kd.int k) (fun n => (Lit.int k n).wf = true) := fun H enc w spare held fuel cs x h => by
  obtain ⟨n, hc, _, hw⟩ := DataW.trod_int ht h
  exact ⟨n, hc, hw⟩
theorem opens_slice {α : Type} {d : Kd α} {wf : α → Prop} (ht : P.underlying t = some (.slice e)) (hc : P.cellsOf e = d.sz) (h : Opens P e d wf) : Opens P t (Kd.slice e d) (fun xs => ∀ x ∈ xs, wf x) := fun H enc w spare held fuel cs x hx => by
  rcases open_slice ht hx with ⟨rfl, _⟩ | ⟨a, len, cap, m, n, D, Pl, rfl, _, hl, hm, hmm, _, hel⟩
  · exact ⟨[], ⟨none, 0, rfl, Nat.le_refl _, rfl, by simp, fun h => absurd h (by simp)⟩, fun x hx => by simp at hx⟩
  · have hlm : len ≤ m := by rw [hmm]; split <;> omega
    have each : ∀ i, i < len → ∃ q : α, (∃ c, c.length = d.sz ∧ d.K w q c ∧ ∀ j u, c[j]? = some u → w.cell? (a.add (i * d.sz + j)) = some u) ∧ wf q := fun i hi => by
      obtain ⟨cs', h1, h2⟩ := hel i (by omega)
      obtain ⟨q, hq, hw⟩ := h H enc w spare held n cs' _ h2
      obtain ⟨_, hlen, hcell⟩ := World.cells?_some h1
      refine ⟨q, ⟨cs', by rw [hlen, hc], hq, fun j u hu => ?_⟩, hw⟩
      have hj : j < cs'.length := (List.getElem?_eq_some_iff.1 hu).1
      have := hcell j (by rw [← hlen]; exact hj)
      rw [Deep.add_add, hc] at this
      rw [this, hu]
    have all : ∀ k, k ≤ len → ∃ ps : List α, ps.length = k ∧ ∀ j p, ps[j]? = some p → (∃ c, c.length = d.sz ∧ d.K w p c ∧ ∀ i u, c[i]? = some u → w.cell? (a.add (j * d.sz + i)) = some u) ∧ wf p := by
      intro k
      induction k with
      | zero => intro _; exact ⟨[], rfl, fun j p h => by simp at h⟩
      | succ k ih =>
        intro hk
        obtain ⟨ps, hp, hps⟩ := ih (by omega)
        obtain ⟨q, hq⟩ := each k (by omega)
        refine ⟨ps ++ [q], by simp [hp], fun j p hj => ?_⟩
        rcases Nat.lt_or_ge j ps.length with h | h
        · rw [List.getElem?_append_left h] at hj
          exact hps j p hj
        · have hj2 := (List.getElem?_eq_some_iff.1 hj).1
          rw [List.length_append, List.length_singleton] at hj2
          obtain rfl : j = k := by omega
          rw [List.getElem?_append_right h, hp, Nat.sub_self] at hj
          obtain rfl : q = p := by simpa using hj
          exact hq
    obtain ⟨ps, hp, hps⟩ := all len (Nat.le_refl _)
    refine ⟨ps, ⟨some a, cap, by rw [hp], by rw [hp]; exact hl, hp.symm ▸ rfl, by unfold maxLen at hm; omega, fun _ => ⟨a, rfl, fun j p hj => (hps j p hj).1⟩⟩, fun x hx => ?_⟩
    obtain ⟨j, hj⟩ := List.mem_iff_getElem?.1 hx
    exact (hps j x hj).2
end
theorem open_row {α : Type} {d : Kd α} {wf : α → Prop} {t e : TypeId} (h : Opens Try.prog t (Kd.slice e d) (fun xs => ∀ x ∈ xs, wf x)) {H : Type} {enc : TypeId × Value → H} {w : World} {spare : Nat → Bool} {held : Bool} {fuel : Nat} {v : Value} {x : DataW H × List MemPlace}
    (hx : DataW.trod enc Try.prog w 0 spare held fuel t [v] = some x) : ∃ A c l, v = .slice A l.length c ∧ d.C w A l.length l ∧ l.length ≤ c ∧ ∀ x ∈ l, wf x := by
  obtain ⟨xs, ⟨A, c, he, hc, hr⟩, hw⟩ := h H enc w spare held fuel [v] x hx
  injection he with he _
  exact ⟨A, c, xs, he, hr, hc, hw⟩
theorem opens_u8s : Opens Try.prog 22 (Kd.slice 5 (Kd.int .u8)) (fun xs => ∀ x ∈ xs, (Lit.int .u8 x).wf = true) := opens_slice Try.underlying22 (by kernel_rfl) (opens_int Try.underlying5)
section
variable {H : Type} {enc : TypeId × Value → H} {w : World} {spare : Nat → Bool} {held : Bool} {r : Reach} {b0 : Nat} {v : Value} {d : DataW H} {p : List MemPlace}
set_option maxRecDepth 100000 in
theorem open_raw (hv : Value.okWide Try.prog w r b0 24 v) (h : DataW.Trod enc Try.prog w 0 spare held 24 v d p) : ∃ (a b : Int) (A : Option Addr) (c : Nat) (l : List Int), v = .agg #[.int .u8 a, .int .u8 b, .slice A l.length c] ∧ (0 ≤ a ∧ a ≤ 255) ∧ (0 ≤ b ∧ b ≤ 255) ∧ (∀ x ∈ l, 0 ≤ x ∧ x ≤ 255) ∧
    (Kd.int .u8).C w A l.length l ∧ l.length ≤ c := by
  obtain ⟨v0, v1, v2, y0, y1, y2, n, rfl, _, _, h0, h1, h2⟩ := open_agg3 Try.underlying24 (by kernel_rfl) (by kernel_rfl) hv h
  obtain ⟨a, ha, _, hw0⟩ := DataW.trod_int (k := .u8) Try.underlying5 h0
  obtain ⟨b, hb, _, hw1⟩ := DataW.trod_int (k := .u8) Try.underlying5 h1
  obtain ⟨A, c, l, rfl, hC, hl, hw⟩ := open_row opens_u8s h2
  have ea : v0 = .int .u8 a := by injection ha
  have eb : v1 = .int .u8 b := by injection hb
  rw [ea, eb]
  exact ⟨a, b, A, c, l, rfl, bounds_u8 hw0, bounds_u8 hw1, fun x hx => bounds_u8 (hw x hx), hC, hl⟩
end
end Go.Proofs.Ytlldjinejckbaaa.Op

end
section
namespace Go.Proofs.Ytlldjinejckbaaa.digraphCycles
open Go.ChangeShapes Go.WideShapes Go.ChangeAt Go.RowKit Go.Proofs.Ytlldjinejckbaaa.Op
open Go.ChangeMaps (open_string shut_string)
set_option linter.unusedVariables false
theorem own : ownKnob Try.prog.godebug = none := by kernel_rfl
theorem laidOut : laidOutB Try.prog = true := by kernel_rfl
set_option maxRecDepth 100000 in
theorem lifted (os : Os) (started : os.Started) (H : Type) (enc : TypeId × Value → H) :
    ReturnsInHanded {} Try.checked os 5 .any (Rows.digraphCyclesSpec.pre6 enc Try.prog Try.f5 Rows.digraphCyclesRow.domain false) (Rows.digraphCyclesSpec.post enc Try.prog Try.f5 false true false false) := by
  refine returnsInHanded_of_change_sized (C := Try.checked) own started (by kernel_rfl) Try.func5
    (ChangeSpec.witness6 (enc := enc) (C := Try.checked) false ⟨#[], #[.agg #[.int .u8 0, .int .u8 0, .slice none 0 0]], []⟩ 8 (by kernel_rfl) (by kernel_rfl) (by kernel_rfl) (by kernel_rfl)) ?_
  intro W base args ds gs before hval0 hW hcnd hsz0 _
  have hval : ∀ (j : Nat) t v, Try.f5.params[j]? = some t → args[j]? = some v → Value.okWide Try.prog W .any base t v := hval0
  have hW' := hW
  obtain ⟨p, q, hA0, hV, rfl, hfz, hnd⟩ := hW
  have hA : DataW.TrodAll enc Try.prog W 0 (fun _ => true) true Try.f5.params.toList args.toList ds p := hA0
  rw [Try.params5] at hA hval
  obtain ⟨v0, vs0, d0, ds0, p0, q0, hargs, rfl, rfl, h0, r0⟩ := trodAll_cons hA
  obtain ⟨rfl, rfl, rfl⟩ := trodAll_nil r0
  obtain rfl : args = #[v0] := by cases args; simp_all
  obtain ⟨rfl, rfl⟩ := trodVars_none hV
  have lt0 : ∀ x ∈ p0, x.block < W.heap.size := by obtain ⟨m, hm⟩ := h0; exact DataW.trod_lt m _ _ _ hm
  obtain ⟨a0, b0, A0, c0, l0, rfl, ha0, hb0, hB0, hr0, hc0⟩ := open_raw (hval 0 24 v0 rfl rfl) h0
  clear hA0 hval0 hsz0
  obtain ⟨k, hk⟩ := PD.cycles_pure a0 b0 ha0.1 hb0.1 l0 hB0
  refine (PD.wireloomlaw05_DigraphCycles.calls k a0 b0 A0 c0 l0 true W hr0 hc0 hk).mono fun e W' ⟨he, bel⟩ => ?_
  subst he
  exact ⟨_, rfl, _, _, _, [], _, [], hW', trodAll_mk1 (shut_bool Try.underlying4 _), (trodAll_cons_mk (Below.trod laidOut (by kernel_rfl) (of_decide_eq_true (by kernel_rfl)) h0 bel lt0) trodAll_mk0), rfl, bel.frame _, fun h => by cases h⟩
theorem over : Rows.digraphCyclesRow.holds Try.pinned (OpenSpec.ofChange Rows.digraphCyclesSpec) :=
  OpenClaim.holds_of_wide 5 Try.f5 rfl rfl rfl rfl rfl rfl rfl ⟨rfl, rfl, rfl, rfl, rfl⟩ rfl rfl rfl rfl rfl (by kernel_rfl) Try.func5 (by kernel_rfl)
    (of_decide_eq_true (by kernel_rfl)) (by unfold Func.isWrapper; first | (rw [if_pos (by decide +kernel)]; kernel_rfl) | (rw [if_neg (by decide +kernel)]; exact ⟨rfl, rfl⟩))
    (fun os started H enc _ => lifted os started H enc)
theorem proved : Rows.DigraphCyclesSaid := over
end Go.Proofs.Ytlldjinejckbaaa.digraphCycles
namespace Go.Proofs.Ytlldjinejckbaaa
theorem digraphCycles_holds : Rows.DigraphCyclesSaid := digraphCycles.proved
end Go.Proofs.Ytlldjinejckbaaa

end
