/- The table's methods, by contract. Conditions: each theorem's own. -/
import Derived.Test.YtfoaalfkjknklaaTabA
namespace Go.Proofs.Ytfoaalfkjknklaa
open Go.RowKit

section
variable {κ ν : Type}
def ents (kv : κ → Value) (vv : ν → Value) (l : List (κ × ν)) : List Value := l.flatMap fun e => [kv e.1, vv e.2]
variable {kv : κ → Value} {vv : ν → Value}
theorem ents_nil : ents kv vv [] = [] := rfl
theorem ents_cons (e : κ × ν) (l : List (κ × ν)) : ents kv vv (e :: l) = kv e.1 :: vv e.2 :: ents kv vv l := rfl
theorem ents_append (a b : List (κ × ν)) : ents kv vv (a ++ b) = ents kv vv a ++ ents kv vv b := List.flatMap_append
theorem ents_length (l : List (κ × ν)) : (ents kv vv l).length = l.length * 2 := by
  induction l with
  | nil => rfl
  | cons e l ih => rw [ents_cons]; simp [ih]; omega
theorem ents_take (l : List (κ × ν)) (i : Nat) : (ents kv vv l).take (i * 2) = ents kv vv (l.take i) := by
  induction l generalizing i with
  | nil => simp [ents_nil]
  | cons e l ih =>
    cases i with
    | zero => simp [ents_nil]
    | succ i => rw [ents_cons, List.take_succ_cons, ents_cons, ← ih, show (i + 1) * 2 = i * 2 + 1 + 1 from by omega, List.take_succ_cons, List.take_succ_cons]
theorem ents_drop (l : List (κ × ν)) (i : Nat) : (ents kv vv l).drop (i * 2) = ents kv vv (l.drop i) := by
  induction l generalizing i with
  | nil => simp [ents_nil]
  | cons e l ih =>
    cases i with
    | zero => simp
    | succ i => rw [ents_cons, List.drop_succ_cons, ← ih, show (i + 1) * 2 = i * 2 + 1 + 1 from by omega, List.drop_succ_cons, List.drop_succ_cons]
theorem ents_get0 (l : List (κ × ν)) (j : Nat) : (ents kv vv l)[j * 2]? = l[j]?.map fun e => kv e.1 := by
  rw [← Nat.add_zero (j * 2), ← List.getElem?_drop, ents_drop]
  rw [show l[j]? = (l.drop j)[0]? from by rw [List.getElem?_drop]; rfl]
  cases l.drop j with
  | nil => rfl
  | cons e l => rfl
theorem ents_get1 (l : List (κ × ν)) (j : Nat) : (ents kv vv l)[j * 2 + 1]? = l[j]?.map fun e => vv e.2 := by
  rw [← List.getElem?_drop, ents_drop]
  rw [show l[j]? = (l.drop j)[0]? from by rw [List.getElem?_drop]; rfl]
  cases l.drop j with
  | nil => rfl
  | cons e l => rfl
theorem ents_one (hk : ∀ k, (kv k).oneCell' = true) (hv : ∀ v, (vv v).oneCell' = true) (l : List (κ × ν)) : ∀ u ∈ ents kv vv l, u.oneCell' = true := by
  intro u hu
  simp only [ents, List.mem_flatMap] at hu
  obtain ⟨e, _, he⟩ := hu
  simp at he
  rcases he with rfl | rfl
  · exact hk _
  · exact hv _
theorem ents_set (l : List (κ × ν)) (i : Nat) (hi : i < l.length) (e : κ × ν) : (ents kv vv l).set (i * 2 + 1) (vv e.2) = ents kv vv (l.set i (l[i].1, e.2)) := by
  induction l generalizing i with
  | nil => simp at hi
  | cons a l ih =>
    cases i with
    | zero => simp [ents_cons]
    | succ i =>
      have := ih i (by simpa using hi)
      rw [ents_cons, show (i + 1) * 2 + 1 = (i * 2 + 1) + 1 + 1 from by omega, List.set_cons_succ, List.set_cons_succ, this]
      simp [ents_cons]
theorem insAt_ents (l : List (κ × ν)) (i : Nat) (e : κ × ν) : insAt (ents kv vv l) (i * 2) [kv e.1, vv e.2] = ents kv vv (l.take i ++ e :: l.drop i) := by
  rw [insAt, ents_take, ents_drop, ents_append, ents_cons]; simp

/- the plain table -/
variable {cmp : κ → κ → Int}
theorem tix_of {l : List (κ × ν)} {k : κ} {i : Nat} (hi : i ≤ l.length) (hlo : ∀ t (h : t < l.length), t < i → cmp l[t].1 k < 0) (hhi : ∀ t (h : t < l.length), i ≤ t → 0 ≤ cmp l[t].1 k) : tix cmp l k = i := by
  induction l generalizing i with
  | nil => simp at hi; simp [tix, hi]
  | cons a l ih =>
    cases i with
    | zero =>
      have := hhi 0 (by simp) (by omega)
      simp only [List.getElem_cons_zero] at this
      simp [tix, List.takeWhile_cons, show ¬ cmp a.1 k < 0 from by omega]
    | succ i =>
      have h0 := hlo 0 (by simp) (by omega)
      simp only [List.getElem_cons_zero] at h0
      have := ih (i := i) (by simpa using hi) (fun t h ht => by have := hlo (t + 1) (by simpa using h) (by omega); simpa using this) (fun t h ht => by have := hhi (t + 1) (by simpa using h) (by omega); simpa using this)
      unfold tix at this ⊢
      simp [List.takeWhile_cons, h0, this]
theorem tix_le (l : List (κ × ν)) (k : κ) : tix cmp l k ≤ l.length := by
  unfold tix; exact (List.takeWhile_prefix _).length_le
def tset (cmp : κ → κ → Int) (l : List (κ × ν)) (k : κ) (x : ν) : List (κ × ν) :=
  match tget cmp l k with
  | some e => l.set (tix cmp l k) (e.1, x)
  | none => l.take (tix cmp l k) ++ (k, x) :: l.drop (tix cmp l k)
def tdel (cmp : κ → κ → Int) (l : List (κ × ν)) (k : κ) : List (κ × ν) :=
  match tget cmp l k with
  | some _ => l.take (tix cmp l k) ++ l.drop (tix cmp l k + 1)
  | none => l
theorem tget_none {l : List (κ × ν)} {k : κ} (h : ∀ e, l[tix cmp l k]? = some e → cmp e.1 k ≠ 0) : tget cmp l k = none := by
  unfold tget
  cases hq : l[tix cmp l k]? with
  | none => rfl
  | some e => simp [Option.filter, h e hq]
theorem tget_some {l : List (κ × ν)} {k : κ} {e : κ × ν} (h : l[tix cmp l k]? = some e) (h0 : cmp e.1 k = 0) : tget cmp l k = some e := by
  unfold tget; rw [h]; simp [Option.filter, h0]
theorem tget_eq {l : List (κ × ν)} {k : κ} {e : κ × ν} (h : tget cmp l k = some e) : l[tix cmp l k]? = some e ∧ cmp e.1 k = 0 := by
  unfold tget at h
  cases hq : l[tix cmp l k]? with
  | none => rw [hq] at h; cases h
  | some e' =>
    rw [hq] at h
    simp only [Option.filter] at h
    split at h
    · rename_i h2
      injection h with h
      subst h
      exact ⟨rfl, by simpa using h2⟩
    · cases h

/-- A table in memory: its struct in block g, its row v. -/
structure Tbl (T E : TypeId) (kv : κ → Value) (vv : ν → Value) (w : World) (g : Nat) (v : Value) (l : List (κ × ν)) : Prop where
  blk : Blk w g T #[v]
  own : w.ownsRow 0 E 2 v l.length (ents kv vv l)
end

abbrev Tblintstring (w : World) (g : Nat) (v : Value) (l : List (Int × ByteArray)) : Prop := Tbl 35 68 (fun k => .int .i64 k) (fun x => .string x) w g v l

def FindPostintstring (l : List (Int × ByteArray)) (k : Int) (w : World) (e : Ending) (w' : World) : Prop :=
  e = .returned (.tuple #[.int .i64 (tix cmpI l k), .bool (tget cmpI l k).isSome]) ∧ Below w.heap.size w w'

theorem find_of_bs_intstring {l : List (Int × ByteArray)} (k : Int) {w w' : World} {e : Ending} (h : BsPost l.length (fun j => cmpI ((l[j]?.map (·.1)).getD k) k) w e w') : FindPostintstring l k w e w' := by
  obtain ⟨i, hi, hlo, hhi, he, hb⟩ := h
  have ht : tix cmpI l k = i := tix_of hi (fun t h ht => by have := hlo t ht; simpa [h] using this) (fun t h ht => by have := hhi t ht h; simpa [h] using this)
  refine ⟨?_, hb⟩
  rw [he, ht]
  congr 5
  by_cases hlt : i < l.length
  · by_cases h0 : cmpI l[i].1 k = 0
    · rw [tget_some (e := l[i]) (by rw [ht]; exact List.getElem?_eq_getElem hlt) h0]
      simp [hlt, h0]
    · rw [tget_none (fun e h1 => by rw [ht, List.getElem?_eq_getElem hlt] at h1; injection h1 with h1; subst h1; exact h0)]
      simp [hlt, h0]
  · rw [tget_none (fun e h1 => by rw [ht, List.getElem?_eq_none (by omega)] at h1; cases h1)]
    simp [hlt]

set_option maxHeartbeats 400000 in
theorem find_intstring (g : Nat) (v : Value) (l : List (Int × ByteArray)) (k : Int) (w : World) (hT : Tblintstring w g v l) (hs : Srt cmpI l) (hn : l.length ≤ 1000000) :
    Calls Try.prog 27 #[.pointer (some ⟨g, 0, none⟩), .int .i64 k] w (FindPostintstring l k w) := by
  obtain ⟨hb, ho⟩ := hT
  have hc := hb.cell 0
  simp only [List.getElem?_toArray, List.getElem?_cons_zero] at hc
  have HP : Hid (∀ w w' e, BsPost l.length (fun j => cmpI ((l[j]?.map (·.1)).getD k) k) w e w' → FindPostintstring l k w e w') := fun _ _ _ h => find_of_bs_intstring k h
  rcases ho.2 with ⟨rfl, h0⟩ | ⟨r, cap, cur, rfl, _, hg, hnc, hcm, hcs, ht⟩
  · obtain rfl : l = [] := List.eq_nil_of_length_eq_zero h0
    clear ho hs
    go_enter Try.func27, Try.ntmps27
    go_wp2_with (go_at_call 42; refine (bsf_nil_intstring _ _ (fun j => cmpI (((([] : List (Int × ByteArray))[j]?).map (·.1)).getD k) k)).mono ?_; intro e w' hbs; obtain ⟨rfl, hb1⟩ := HP.out _ _ _ hbs)
    go_ret2
    exact ⟨rfl, hb1⟩
  · have hrd : ∀ (j : Nat) (u : Value), (ents (fun k => .int .i64 k) (fun x => .string x) l)[j]? = some u → w.cell? ⟨r, 0 + j, none⟩ = some u := fun j u hu => by
      rw [Nat.zero_add, Blk.cell (t := 68) hg]
      rw [← ht, List.getElem?_take] at hu
      split at hu
      · simpa using hu
      · cases hu
    have hB : ∀ W, w = W → Calls Try.prog 42 #[.slice (some ⟨r, 0, none⟩) l.length cap, .int .i64 k, .func (.func 43) #[] #[]] W (BsPost l.length (fun j => cmpI ((l[j]?.map (·.1)).getD k) k) W) := by
      rintro W rfl
      have hK := bsf_intstring r 0 l.length cap k w hn (fun j => (l[j]?.map (·.1)).getD k) (fun j => ((l[j]?.map fun e => .string e.2)).getD .nilIface)
      refine hK ?_ ?_ ?_ (Array.getElem?_eq_some_iff.1 hg).1
      · intro i j hij hj
        have := List.pairwise_iff_getElem.1 hs i j (by omega) hj hij
        simpa [hj, show i < l.length from by omega] using this
      · intro j hj
        refine hrd _ _ ?_
        rw [ents_get0]
        simp [hj]
      · intro j hj
        rw [Nat.add_assoc]
        refine hrd _ _ ?_
        rw [ents_get1]
        simp [hj]
    have HB := Lib.hid hB
    clear ho hs hrd hB hcs ht hg
    go_enter Try.func27, Try.ntmps27
    go_wp2_with (go_at_call 42; refine (HB.out _ rfl).mono ?_; intro e w' hbs; obtain ⟨rfl, hb1⟩ := HP.out _ _ _ hbs)
    go_ret2
    exact ⟨rfl, hb1⟩
abbrev Tblstringint (w : World) (g : Nat) (v : Value) (l : List (ByteArray × Int)) : Prop := Tbl 77 80 (fun k => .string k) (fun x => .int .i64 x) w g v l

def FindPoststringint (l : List (ByteArray × Int)) (k : ByteArray) (w : World) (e : Ending) (w' : World) : Prop :=
  e = .returned (.tuple #[.int .i64 (tix cmpS l k), .bool (tget cmpS l k).isSome]) ∧ Below w.heap.size w w'

theorem find_of_bs_stringint {l : List (ByteArray × Int)} (k : ByteArray) {w w' : World} {e : Ending} (h : BsPost l.length (fun j => cmpS ((l[j]?.map (·.1)).getD k) k) w e w') : FindPoststringint l k w e w' := by
  obtain ⟨i, hi, hlo, hhi, he, hb⟩ := h
  have ht : tix cmpS l k = i := tix_of hi (fun t h ht => by have := hlo t ht; simpa [h] using this) (fun t h ht => by have := hhi t ht h; simpa [h] using this)
  refine ⟨?_, hb⟩
  rw [he, ht]
  congr 5
  by_cases hlt : i < l.length
  · by_cases h0 : cmpS l[i].1 k = 0
    · rw [tget_some (e := l[i]) (by rw [ht]; exact List.getElem?_eq_getElem hlt) h0]
      simp [hlt, h0]
    · rw [tget_none (fun e h1 => by rw [ht, List.getElem?_eq_getElem hlt] at h1; injection h1 with h1; subst h1; exact h0)]
      simp [hlt, h0]
  · rw [tget_none (fun e h1 => by rw [ht, List.getElem?_eq_none (by omega)] at h1; cases h1)]
    simp [hlt]

set_option maxHeartbeats 400000 in
theorem find_stringint (g : Nat) (v : Value) (l : List (ByteArray × Int)) (k : ByteArray) (w : World) (hT : Tblstringint w g v l) (hs : Srt cmpS l) (hn : l.length ≤ 1000000) :
    Calls Try.prog 37 #[.pointer (some ⟨g, 0, none⟩), .string k] w (FindPoststringint l k w) := by
  obtain ⟨hb, ho⟩ := hT
  have hc := hb.cell 0
  simp only [List.getElem?_toArray, List.getElem?_cons_zero] at hc
  have HP : Hid (∀ w w' e, BsPost l.length (fun j => cmpS ((l[j]?.map (·.1)).getD k) k) w e w' → FindPoststringint l k w e w') := fun _ _ _ h => find_of_bs_stringint k h
  rcases ho.2 with ⟨rfl, h0⟩ | ⟨r, cap, cur, rfl, _, hg, hnc, hcm, hcs, ht⟩
  · obtain rfl : l = [] := List.eq_nil_of_length_eq_zero h0
    clear ho hs
    go_enter Try.func37, Try.ntmps37
    go_wp2_with (go_at_call 47; refine (bsf_nil_stringint _ _ (fun j => cmpS (((([] : List (ByteArray × Int))[j]?).map (·.1)).getD k) k)).mono ?_; intro e w' hbs; obtain ⟨rfl, hb1⟩ := HP.out _ _ _ hbs)
    go_ret2
    exact ⟨rfl, hb1⟩
  · have hrd : ∀ (j : Nat) (u : Value), (ents (fun k => .string k) (fun x => .int .i64 x) l)[j]? = some u → w.cell? ⟨r, 0 + j, none⟩ = some u := fun j u hu => by
      rw [Nat.zero_add, Blk.cell (t := 80) hg]
      rw [← ht, List.getElem?_take] at hu
      split at hu
      · simpa using hu
      · cases hu
    have hB : ∀ W, w = W → Calls Try.prog 47 #[.slice (some ⟨r, 0, none⟩) l.length cap, .string k, .func (.func 48) #[] #[]] W (BsPost l.length (fun j => cmpS ((l[j]?.map (·.1)).getD k) k) W) := by
      rintro W rfl
      have hK := bsf_stringint r 0 l.length cap k w hn (fun j => (l[j]?.map (·.1)).getD k) (fun j => ((l[j]?.map fun e => .int .i64 e.2)).getD .nilIface)
      refine hK ?_ ?_ ?_ (Array.getElem?_eq_some_iff.1 hg).1
      · intro i j hij hj
        have := List.pairwise_iff_getElem.1 hs i j (by omega) hj hij
        simpa [hj, show i < l.length from by omega] using this
      · intro j hj
        refine hrd _ _ ?_
        rw [ents_get0]
        simp [hj]
      · intro j hj
        rw [Nat.add_assoc]
        refine hrd _ _ ?_
        rw [ents_get1]
        simp [hj]
    have HB := Lib.hid hB
    clear ho hs hrd hB hcs ht hg
    go_enter Try.func37, Try.ntmps37
    go_wp2_with (go_at_call 47; refine (HB.out _ rfl).mono ?_; intro e w' hbs; obtain ⟨rfl, hb1⟩ := HP.out _ _ _ hbs)
    go_ret2
    exact ⟨rfl, hb1⟩
abbrev Tblintint (w : World) (g : Nat) (v : Value) (l : List (Int × Int)) : Prop := Tbl 63 66 (fun k => .int .i64 k) (fun x => .int .i64 x) w g v l

def FindPostintint (l : List (Int × Int)) (k : Int) (w : World) (e : Ending) (w' : World) : Prop :=
  e = .returned (.tuple #[.int .i64 (tix cmpI l k), .bool (tget cmpI l k).isSome]) ∧ Below w.heap.size w w'

theorem find_of_bs_intint {l : List (Int × Int)} (k : Int) {w w' : World} {e : Ending} (h : BsPost l.length (fun j => cmpI ((l[j]?.map (·.1)).getD k) k) w e w') : FindPostintint l k w e w' := by
  obtain ⟨i, hi, hlo, hhi, he, hb⟩ := h
  have ht : tix cmpI l k = i := tix_of hi (fun t h ht => by have := hlo t ht; simpa [h] using this) (fun t h ht => by have := hhi t ht h; simpa [h] using this)
  refine ⟨?_, hb⟩
  rw [he, ht]
  congr 5
  by_cases hlt : i < l.length
  · by_cases h0 : cmpI l[i].1 k = 0
    · rw [tget_some (e := l[i]) (by rw [ht]; exact List.getElem?_eq_getElem hlt) h0]
      simp [hlt, h0]
    · rw [tget_none (fun e h1 => by rw [ht, List.getElem?_eq_getElem hlt] at h1; injection h1 with h1; subst h1; exact h0)]
      simp [hlt, h0]
  · rw [tget_none (fun e h1 => by rw [ht, List.getElem?_eq_none (by omega)] at h1; cases h1)]
    simp [hlt]

set_option maxHeartbeats 400000 in
theorem find_intint (g : Nat) (v : Value) (l : List (Int × Int)) (k : Int) (w : World) (hT : Tblintint w g v l) (hs : Srt cmpI l) (hn : l.length ≤ 1000000) :
    Calls Try.prog 26 #[.pointer (some ⟨g, 0, none⟩), .int .i64 k] w (FindPostintint l k w) := by
  obtain ⟨hb, ho⟩ := hT
  have hc := hb.cell 0
  simp only [List.getElem?_toArray, List.getElem?_cons_zero] at hc
  have HP : Hid (∀ w w' e, BsPost l.length (fun j => cmpI ((l[j]?.map (·.1)).getD k) k) w e w' → FindPostintint l k w e w') := fun _ _ _ h => find_of_bs_intint k h
  rcases ho.2 with ⟨rfl, h0⟩ | ⟨r, cap, cur, rfl, _, hg, hnc, hcm, hcs, ht⟩
  · obtain rfl : l = [] := List.eq_nil_of_length_eq_zero h0
    clear ho hs
    go_enter Try.func26, Try.ntmps26
    go_wp2_with (go_at_call 39; refine (bsf_nil_intint _ _ (fun j => cmpI (((([] : List (Int × Int))[j]?).map (·.1)).getD k) k)).mono ?_; intro e w' hbs; obtain ⟨rfl, hb1⟩ := HP.out _ _ _ hbs)
    go_ret2
    exact ⟨rfl, hb1⟩
  · have hrd : ∀ (j : Nat) (u : Value), (ents (fun k => .int .i64 k) (fun x => .int .i64 x) l)[j]? = some u → w.cell? ⟨r, 0 + j, none⟩ = some u := fun j u hu => by
      rw [Nat.zero_add, Blk.cell (t := 66) hg]
      rw [← ht, List.getElem?_take] at hu
      split at hu
      · simpa using hu
      · cases hu
    have hB : ∀ W, w = W → Calls Try.prog 39 #[.slice (some ⟨r, 0, none⟩) l.length cap, .int .i64 k, .func (.func 40) #[] #[]] W (BsPost l.length (fun j => cmpI ((l[j]?.map (·.1)).getD k) k) W) := by
      rintro W rfl
      have hK := bsf_intint r 0 l.length cap k w hn (fun j => (l[j]?.map (·.1)).getD k) (fun j => ((l[j]?.map fun e => .int .i64 e.2)).getD .nilIface)
      refine hK ?_ ?_ ?_ (Array.getElem?_eq_some_iff.1 hg).1
      · intro i j hij hj
        have := List.pairwise_iff_getElem.1 hs i j (by omega) hj hij
        simpa [hj, show i < l.length from by omega] using this
      · intro j hj
        refine hrd _ _ ?_
        rw [ents_get0]
        simp [hj]
      · intro j hj
        rw [Nat.add_assoc]
        refine hrd _ _ ?_
        rw [ents_get1]
        simp [hj]
    have HB := Lib.hid hB
    clear ho hs hrd hB hcs ht hg
    go_enter Try.func26, Try.ntmps26
    go_wp2_with (go_at_call 39; refine (HB.out _ rfl).mono ?_; intro e w' hbs; obtain ⟨rfl, hb1⟩ := HP.out _ _ _ hbs)
    go_ret2
    exact ⟨rfl, hb1⟩

end Go.Proofs.Ytfoaalfkjknklaa
