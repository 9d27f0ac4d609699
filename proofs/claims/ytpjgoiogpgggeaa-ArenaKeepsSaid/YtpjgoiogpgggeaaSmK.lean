/- The law's small helpers as printed, their answers; lists of calls in memory. Conditions: each lemma's own. -/
import Derived.Test.YtpjgoiogpgggeaaArN
import Derived.Test.YtpjgoiogpgggeaaPRefx1
import Derived.Test.YtpjgoiogpgggeaaPRefx27
import Derived.Test.YtpjgoiogpgggeaaPRefx26
import Derived.Test.YtpjgoiogpgggeaaOpen
namespace Go.Proofs.Ytpjgoiogpgggeaa
open Go.RowKit Go.Proofs.Ytpjgoiogpgggeaa.PRef Go.Proofs.YtpjgoiogpgggeaaW.PrintWords
abbrev ROp := S31
theorem wr64 {x : Int} (h : -9223372036854775808 ≤ x) (h2 : x ≤ 9223372036854775807) : wrap64 x = x := by unfold wrap64; omega
theorem small_l0 (x0 : Int) (l : List ROp) (hl : l.length ≤ 9223372036854775807) (hf : ∀ o ∈ l, o.f2.length ≤ 9223372036854775807) :
    ∀ (d k : Nat) (n : Int) (i : Nat), i + d = l.length → d < k → 0 ≤ n → n ≤ 200 → 2 * (i : Int) ≤ n → (∀ j (hj : j < l.length), j < i → l[j].f2.length ≤ 300) →
      ∃ r, athanorlaw15_small.l0 k x0 n l (l.length : Int) (i : Int) = some r ∧ (r = true → 0 ≤ x0 ∧ x0 ≤ 300 ∧ l.length ≤ 100 ∧ ∀ o ∈ l, o.f2.length ≤ 300) := by
  intro d
  induction d with
  | zero =>
    intro k n i hi hk hn0 hn hin hj
    obtain ⟨k, rfl⟩ : ∃ m, k = m + 1 := ⟨k - 1, by omega⟩
    simp only [athanorlaw15_small.l0]
    rw [if_neg (by omega)]
    have hall : ∀ o ∈ l, o.f2.length ≤ 300 := fun o ho => by
      obtain ⟨j, hjl, he⟩ := List.mem_iff_getElem.1 ho
      rw [← he]; exact hj j hjl (by omega)
    by_cases h0 : x0 ≥ 0
    · rw [if_pos h0]
      exact ⟨_, rfl, fun h => ⟨h0, by simpa using h, by omega, hall⟩⟩
    · rw [if_neg h0]
      exact ⟨_, rfl, fun h => by cases h⟩
  | succ d ih =>
    intro k n i hi hk hn0 hn hin hj
    obtain ⟨k, rfl⟩ : ∃ m, k = m + 1 := ⟨k - 1, by omega⟩
    have hil : i < l.length := by omega
    have hrd : rd_T31 l (i : Int) = l[i] := by unfold rd_T31; simp [hil]
    have hfl := hf l[i] (List.getElem_mem hil)
    simp only [athanorlaw15_small.l0]
    rw [if_pos (by omega), if_pos (by omega), if_pos (by omega), hrd]
    have e1 : wrap64 ((l[i].f2.length : Int) / 10) = (l[i].f2.length : Int) / 10 := wr64 (by omega) (by omega)
    have e2 : wrap64 (2 + (l[i].f2.length : Int) / 10) = 2 + (l[i].f2.length : Int) / 10 := wr64 (by omega) (by omega)
    have e3 : wrap64 (n + (2 + (l[i].f2.length : Int) / 10)) = n + (2 + (l[i].f2.length : Int) / 10) := wr64 (by omega) (by omega)
    have e4 : wrap64 ((i : Int) + 1) = ((i + 1 : Nat) : Int) := by rw [wr64 (by omega) (by omega)]; rfl
    rw [e1, e2, e3, e4]
    clear e1 e2 e3 e4
    by_cases h1 : n + (2 + (l[i].f2.length : Int) / 10) > 200
    · rw [if_pos h1]; exact ⟨_, rfl, fun h => by cases h⟩
    · rw [if_neg h1]
      by_cases h2 : (l[i].f2.length : Int) > 300
      · rw [if_pos h2]; exact ⟨_, rfl, fun h => by cases h⟩
      · rw [if_neg h2]
        refine ih k (n + (2 + (l[i].f2.length : Int) / 10)) (i + 1) (by omega) (by omega) (by omega) (by omega) (by omega) fun j hjl hji => ?_
        by_cases hje : j = i
        · subst hje; omega
        · exact hj j hjl (by omega)
theorem small_f (x0 : Int) (l : List ROp) (hl : l.length ≤ 9223372036854775807) (hf : ∀ o ∈ l, o.f2.length ≤ 9223372036854775807) :
    ∃ k r, athanorlaw15_small.f k x0 l = some r ∧ (r = true → 0 ≤ x0 ∧ x0 ≤ 300 ∧ l.length ≤ 100 ∧ ∀ o ∈ l, o.f2.length ≤ 300) := by
  have q1 : 0 + l.length = l.length := Nat.zero_add _
  have q2 : l.length < l.length + 1 := Nat.lt_succ_self _
  have q3 : 2 * ((0 : Nat) : Int) ≤ 0 := Int.le_refl 0
  have h := small_l0 x0 l hl hf l.length (l.length + 1) 0 0 q1 q2 (Int.le_refl 0) (by decide) q3 (fun j _ h => absurd h (Nat.not_lt_zero j))
  rw [show ((0 : Nat) : Int) = 0 from rfl] at h
  obtain ⟨r, h1, h2⟩ := h
  refine ⟨l.length + 1, r, ?_, h2⟩
  unfold athanorlaw15_small.f
  exact h1
theorem plain_l0 (l : List Int) (hl : l.length ≤ 1000000) : ∀ (d k i : Nat), i + d = l.length → d < k → athanorlaw15_plain.l0 k (l.take i) l (l.length : Int) (i : Int) = some l := by
  intro d
  induction d with
  | zero =>
    intro k i hi hk
    obtain ⟨k, rfl⟩ : ∃ m, k = m + 1 := ⟨k - 1, by omega⟩
    simp only [athanorlaw15_plain.l0]
    rw [if_neg (by omega), List.take_of_length_le (by omega)]
  | succ d ih =>
    intro k i hi hk
    obtain ⟨k, rfl⟩ : ∃ m, k = m + 1 := ⟨k - 1, by omega⟩
    have hil : i < l.length := by omega
    simp only [athanorlaw15_plain.l0]
    rw [if_pos (by omega), if_pos (by omega), if_pos (by omega), if_pos (by rw [List.length_take]; omega)]
    have e1 : rd l (i : Int) = l[i] := by unfold rd; simp [hil]
    have e4 : wrap64 ((i : Int) + 1) = ((i + 1 : Nat) : Int) := by rw [wr64 (by omega) (by omega)]; rfl
    rw [e1, e4, ← List.take_succ_eq_append_getElem hil]
    clear e1 e4
    exact ih k (i + 1) (by omega) (by omega)
theorem plain_f (l : List Int) (hl : l.length ≤ 1000000) : athanorlaw15_plain.f (l.length + 1) l = some l := by
  have h := plain_l0 l hl l.length (l.length + 1) 0 (by omega) (by omega)
  rw [show ((0 : Nat) : Int) = 0 from rfl, List.take_zero] at h
  unfold athanorlaw15_plain.f
  exact h
theorem same_l0 (l : List Int) (hl : l.length ≤ 1000000) : ∀ (d k i : Nat), i + d = l.length → d < k → athanorlaw15_same.l0 k l l (l.length : Int) (i : Int) = some true := by
  intro d
  induction d with
  | zero =>
    intro k i hi hk
    obtain ⟨k, rfl⟩ : ∃ m, k = m + 1 := ⟨k - 1, by omega⟩
    simp only [athanorlaw15_same.l0]
    rw [if_neg (by omega)]
  | succ d ih =>
    intro k i hi hk
    obtain ⟨k, rfl⟩ : ∃ m, k = m + 1 := ⟨k - 1, by omega⟩
    have e4 : wrap64 ((i : Int) + 1) = ((i + 1 : Nat) : Int) := by rw [wr64 (by omega) (by omega)]; rfl
    simp only [athanorlaw15_same.l0]
    rw [if_pos (by clear e4; omega), if_pos (by clear e4; omega), if_pos (by clear e4; omega), if_pos (by clear e4; omega)]
    simp only [if_true]
    rw [e4]
    clear e4
    exact ih k (i + 1) (by omega) (by omega)
theorem same_f (l : List Int) (hl : l.length ≤ 1000000) : athanorlaw15_same.f (l.length + 1) l l = some true := by
  unfold athanorlaw15_same.f
  rw [if_pos rfl]
  have h := same_l0 l hl l.length (l.length + 1) 0 (by omega) (by omega)
  rw [show ((0 : Nat) : Int) = 0 from rfl] at h
  exact h
/-- A row of whole numbers that came in. -/
theorem C_RdF {w : World} {A : Option Addr} {ys : List Int} (h : (Kd.int .i64).C w A ys.length ys) (hl : ys.length ≤ 16777216) : RdF w A ys := by
  refine ⟨hl, fun hp => ?_⟩
  obtain ⟨ad, rfl, hc⟩ := h.2.2 hp
  have hat : ∀ j (hj : j < ys.length), w.cell? (ad.add j) = some (.int .i64 ys[j]) := fun j hj => by
    obtain ⟨c, hc1, hc2, hc3⟩ := hc j _ (List.getElem?_eq_getElem hj)
    have hce : c = [.int .i64 ys[j]] := hc2
    subst hce
    have := hc3 0 _ rfl
    have hsz : (Kd.int .i64).sz = 1 := rfl
    rw [hsz] at this
    simpa using this
  obtain ⟨b, o, rfl⟩ := addr_plain (a := ad) (by have := hat 0 hp; rw [show ad.add 0 = ad from rfl] at this; exact this)
  refine ⟨b, o, rfl, ?_, fun j u hu => ?_⟩
  · have := World.block_lt_of_cell? w _ (hat 0 hp)
    exact this
  · have hj : j < ys.length := by have := (List.getElem?_eq_some_iff.1 hu).1; simpa [ivals] using this
    have := hat j hj
    rw [Addr.add_lit] at this
    rw [this]
    simp [ivals, hj] at hu
    rw [← hu]
theorem RdF.below {w w' : World} {A : Option Addr} {ys : List Int} (h : RdF w A ys) (hb : Below w.heap.size w w') : RdF w' A ys :=
  ⟨h.1, fun hp => by
    obtain ⟨b, o, e, hl, hc⟩ := h.2 hp
    exact ⟨b, o, e, Nat.lt_of_lt_of_le hl hb.size, fun j u hu => (hb.cell (p := ⟨b, o + j, none⟩) hl).trans (hc j u hu)⟩⟩
/-- A row of cells of the call's own, read. -/
theorem own_C {w : World} {e : TypeId} {A : Option Addr} {c : Nat} {xs : List Int} (h : w.ownsRow 0 e 1 (.slice A xs.length c) xs.length (ivals xs)) (hl : xs.length ≤ 1000000) : (Kd.int .i64).C w A xs.length xs ∧ xs.length ≤ c := by
  refine ⟨⟨rfl, by omega, fun hp => ?_⟩, ?_⟩
  · obtain ⟨r, c', he⟩ := own_some h hp
    injection he with he _ _
    subst he
    refine ⟨_, rfl, fun j p hj => ⟨[.int .i64 p], rfl, rfl, fun i u hu => ?_⟩⟩
    obtain ⟨hjl, hje⟩ := List.getElem?_eq_some_iff.1 hj
    have hi : i = 0 := by have := (List.getElem?_eq_some_iff.1 hu).1; simp at this; omega
    subst hi
    have hsz : (Kd.int .i64).sz = 1 := rfl
    rw [hsz, Addr.add_lit]
    have := h.cellAt j (by omega)
    simp only [Nat.mul_one, Nat.add_zero, Nat.zero_add]
    rw [this]
    simp only [List.getElem?_cons_zero, Option.some.injEq] at hu
    rw [← hu]
    simp [ivals, hjl, hje]
  · rcases h.2 with ⟨he, h0⟩ | ⟨g, cap, cur, he, _, _, hn, _⟩
    · injection he with _ _ hc; omega
    · injection he with _ _ hc; omega
theorem ops_at {w : World} {A : Option Addr} {l : List ROp} (h : Kd.C k31 w A l.length l) (i : Nat) (hi : i < l.length) :
    ∃ b o A2 c2, A = some ⟨b, o, none⟩ ∧ b < w.heap.size ∧ w.cell? ⟨b, o + i * 3, none⟩ = some (.int .i64 l[i].f0) ∧ w.cell? ⟨b, o + i * 3 + 1, none⟩ = some (.int .i64 l[i].f1) ∧ w.cell? ⟨b, o + i * 3 + 2, none⟩ = some (.slice A2 l[i].f2.length c2) ∧ l[i].f2.length ≤ c2 ∧ (Kd.int .i64).C w A2 l[i].f2.length l[i].f2 := by
  obtain ⟨ad, rfl, hc⟩ := h.2.2 (by omega)
  obtain ⟨b, o, rfl⟩ : ∃ b o, ad = ⟨b, o, none⟩ := by
    obtain ⟨c, hc1, hc2, hc3⟩ := hc 0 _ (List.getElem?_eq_getElem (by omega))
    obtain ⟨A2, c2, rfl, _⟩ := k31_open hc2
    have := hc3 0 _ rfl
    simp only [Nat.zero_mul] at this
    exact addr_plain (a := ad) (by rw [show ad.add (0 + 0) = ad from rfl] at this; exact this)
  obtain ⟨c, hc1, hc2, hc3⟩ := hc i _ (List.getElem?_eq_getElem hi)
  obtain ⟨A2, c2, rfl, hl, hC⟩ := k31_open hc2
  have hsz : k31.sz = 3 := rfl
  rw [hsz] at hc3
  have q0 := hc3 0 _ rfl
  have q1 := hc3 1 _ rfl
  have q2 := hc3 2 _ rfl
  rw [Addr.add_lit] at q0 q1 q2
  exact ⟨b, o, A2, c2, rfl, World.block_lt_of_cell? w _ q0, q0, q1, q2, hl, hC⟩
theorem ops_max {w : World} {A : Option Addr} {l : List ROp} (h : Kd.C k31 w A l.length l) : l.length ≤ 9223372036854775807 ∧ ∀ o ∈ l, o.f2.length ≤ 9223372036854775807 := by
  refine ⟨h.2.1, fun o ho => ?_⟩
  obtain ⟨j, hj, he⟩ := List.mem_iff_getElem.1 ho
  obtain ⟨_, _, _, _, _, _, _, _, _, _, hC⟩ := ops_at h j hj
  rw [← he]; exact hC.2.1
end Go.Proofs.Ytpjgoiogpgggeaa
