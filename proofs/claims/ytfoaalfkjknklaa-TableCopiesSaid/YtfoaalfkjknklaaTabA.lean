/- The table's functions, walked: compare, the binary search, find, Get, Has, Set, Del, Pop, Len, Keys, Copy, at each instance that the statements use. Conditions: each theorem's own. -/
import Derived.Test.YtfoaalfkjknklaaSlA
namespace Go.Proofs.Ytfoaalfkjknklaa
open Go.RowKit

def cmpI (a b : Int) : Int := if a < b then -1 else if b < a then 1 else 0
theorem cmpI_lt (a b : Int) : cmpI a b < 0 ↔ a < b := by unfold cmpI; split <;> (try split) <;> omega
theorem cmpI_eq (a b : Int) : cmpI a b = 0 ↔ a = b := by unfold cmpI; split <;> (try split) <;> omega
def cmpS (a b : ByteArray) : Int := if Op.bytesLess a.toList b.toList = true then -1 else if (!a.toList == b.toList) = true then 1 else 0

structure CmpOk {κ : Type} (cmp : κ → κ → Int) : Prop where
  eq : ∀ a b, cmp a b = 0 ↔ a = b
  trans : ∀ a b c, cmp a b < 0 → cmp b c < 0 → cmp a c < 0
  flip : ∀ a b, cmp a b < 0 ↔ 0 < cmp b a
theorem cmpI_ok : CmpOk cmpI := ⟨cmpI_eq, fun a b c h k => by rw [cmpI_lt] at *; omega, fun a b => by unfold cmpI; split <;> (try split) <;> (try split) <;> omega⟩
theorem bytesLess_eq' : ∀ (x y : List UInt8), Op.bytesLess x y = decide (x < y)
  | [], [] => by simp [Op.bytesLess]
  | _ :: _, [] => by simp [Op.bytesLess]
  | [], _ :: _ => by simp [Op.bytesLess]
  | a :: x, b :: y => by
    rw [Op.bytesLess, bytesLess_eq' x y]
    simp only [List.cons_lt_cons_iff]
    by_cases h1 : a < b <;> by_cases h2 : a = b <;> by_cases h3 : x < y <;> simp [h1, h2, h3]
theorem lt_of_not' (x y : List UInt8) (h : ¬ x < y) (h2 : x ≠ y) : y < x := by
  have h' := List.not_lt.1 h
  rcases Classical.em (y < x) with h3 | h3
  · exact h3
  · exact absurd (List.le_antisymm (List.not_lt.1 h3) h') h2
theorem cmpS_lt (a b : ByteArray) : cmpS a b < 0 ↔ a.toList < b.toList := by
  unfold cmpS; rw [bytesLess_eq']; split <;> (try split) <;> simp_all
theorem toList_inj (a b : ByteArray) : a.toList = b.toList ↔ a = b := by
  constructor
  · intro h
    rw [ByteArray.toList_eq, ByteArray.toList_eq] at h
    exact ByteArray.ext (Array.toList_inj.1 h)
  · intro h; rw [h]
theorem cmpS_eq (a b : ByteArray) : cmpS a b = 0 ↔ a = b := by
  unfold cmpS; rw [bytesLess_eq', ← toList_inj]; split
  · rename_i h; simp at h; constructor
    · intro h1; omega
    · intro h1; rw [h1] at h; exact absurd h (List.lt_irrefl _)
  · split <;> simp_all
theorem cmpS_ok : CmpOk cmpS := ⟨cmpS_eq, fun a b c h k => by rw [cmpS_lt] at *; exact List.lt_trans h k, fun a b => by
    rw [cmpS_lt]; unfold cmpS; rw [bytesLess_eq']
    constructor
    · intro h
      have h1 : ¬ b.toList < a.toList := List.lt_asymm h
      have h2 : b.toList ≠ a.toList := fun e => by rw [e] at h; exact List.lt_irrefl _ h
      simp [h1, h2]
    · intro h
      split at h
      · omega
      · split at h
        · rename_i h1 h2
          exact lt_of_not' _ _ (by simpa using h1) (by simpa using h2)
        · omega⟩

set_option maxHeartbeats 400000 in
theorem isNaN_int (a : Int) (w : World) :
    Calls Try.prog 52 #[.int .i64 a] w fun e w' => e = .returned (.bool false) ∧ w = w' := by
  go_enter Try.func52, Try.ntmps52
  go_wp2
  go_ret
  exact ⟨rfl, rfl⟩

set_option maxHeartbeats 400000 in
theorem compare_int (a b : Int) (w : World) :
    Calls Try.prog 41 #[.int .i64 a, .int .i64 b] w fun e w' => e = .returned (.int .i64 (cmpI a b)) ∧ w = w' := by
  go_enter Try.func41, Try.ntmps41
  go_wp2_with (go_at_call 52; refine (isNaN_int _ _).mono ?_; rintro e w' ⟨rfl, rfl⟩)
  all_goals go_ret
  all_goals exact ⟨by unfold cmpI; simp [*]; try omega, rfl⟩

set_option maxHeartbeats 400000 in
theorem isNaN_string (a : ByteArray) (w : World) :
    Calls Try.prog 56 #[.string a] w fun e w' => e = .returned (.bool false) ∧ w = w' := by
  go_enter Try.func56, Try.ntmps56
  go_wp2
  go_ret
  exact ⟨rfl, rfl⟩

set_option maxHeartbeats 400000 in
theorem compare_string (a b : ByteArray) (w : World) :
    Calls Try.prog 49 #[.string a, .string b] w fun e w' => e = .returned (.int .i64 (cmpS a b)) ∧ w = w' := by
  go_enter Try.func49, Try.ntmps49
  go_wp2_with (go_at_call 56; refine (isNaN_string _ _).mono ?_; rintro e w' ⟨rfl, rfl⟩)
  all_goals go_ret
  all_goals exact ⟨by unfold cmpS; simp [*], rfl⟩

/-- The table's place of a key, and whether it is there. -/
def tix {κ ν : Type} (cmp : κ → κ → Int) (l : List (κ × ν)) (k : κ) : Nat := (l.takeWhile fun e => decide (cmp e.1 k < 0)).length
def tget {κ ν : Type} (cmp : κ → κ → Int) (l : List (κ × ν)) (k : κ) : Option (κ × ν) := (l[tix cmp l k]?).filter fun e => cmp e.1 k == 0
def Srt {κ ν : Type} (cmp : κ → κ → Int) (l : List (κ × ν)) : Prop := l.Pairwise fun a b => cmp a.1 b.1 < 0

def BsPost (n : Nat) (r : Nat → Int) (w : World) (e : Ending) (w' : World) : Prop :=
  ∃ i : Nat, i ≤ n ∧ (∀ t, t < i → r t < 0) ∧ (∀ t, i ≤ t → t < n → 0 ≤ r t) ∧ e = .returned (.tuple #[.int .i64 i, .bool (decide (i < n) && r i == 0)]) ∧ Below w.heap.size w w'

set_option maxHeartbeats 400000 in
theorem find1_intstring (k : Int) (v : Value) (b : Int) (w : World) :
    Calls Try.prog 43 #[.agg #[.int .i64 k, v], .int .i64 b] w fun e w' => e = .returned (.int .i64 (cmpI k b)) ∧ Below w.heap.size w w' := by
  go_enter Try.func43, Try.ntmps43
  go_wp2_with (go_at_call 41; refine (compare_int _ _ _).mono ?_; rintro e w' ⟨rfl, rfl⟩)
  go_ret
  exact ⟨rfl, (Below.refl _ _).alloc (Nat.le_refl _) _⟩

set_option maxRecDepth 100000 in
set_option maxHeartbeats 400000 in
theorem bsf_intstring (b off : Nat) (n c : Nat) (k : Int) (w : World) (hn : n ≤ 1000000) (key : Nat → Int) (val : Nat → Value)
    (hs : ∀ i j, i < j → j < n → cmpI (key i) (key j) < 0)
    (h0 : ∀ j, j < n → w.cell? ⟨b, off + j * 2, none⟩ = some (.int .i64 (key j)))
    (h1 : ∀ j, j < n → w.cell? ⟨b, off + j * 2 + 1, none⟩ = some (val j)) (hb : b < w.heap.size) :
    Calls Try.prog 42 #[.slice (some ⟨b, off, none⟩) n c, .int .i64 k, .func (.func 43) #[] #[]] w (BsPost n (fun j => cmpI (key j) k) w) := by
  have hmono : ∀ i j, i ≤ j → j < n → cmpI (key j) k < 0 → cmpI (key i) k < 0 := fun i j hij hj h => by
    rcases Nat.eq_or_lt_of_le hij with rfl | hlt
    · exact h
    · exact (cmpI_ok).trans _ _ _ (hs i j hlt hj) h
  go_enter Try.func42, Try.ntmps42
  go_wp2_with fail
  go_loopw [9, 10] (fun i j wr => ∃ x y : Nat, i = .int .i64 x ∧ j = .int .i64 y ∧ x ≤ y ∧ y ≤ n ∧ (∀ t, t < x → cmpI (key t) k < 0) ∧ (∀ t, y ≤ t → t < n → 0 ≤ cmpI (key t) k) ∧ Below w.heap.size w wr) (fun i j _ => (intOf j).toNat - (intOf i).toNat)
  case atStart => exact ⟨0, n, rfl, rfl, by omega, by omega, by omega, by omega, Below.refl _ _⟩
  case round =>
    obtain ⟨x, y, rfl, rfl, hxy, hyn, hlo, hhi, hbw⟩ := hrel
    have g0 : ∀ j, j < n → wr.cell? ⟨b, off + j * 2, none⟩ = some (.int .i64 (key j)) := fun j hj => (hbw.cell (p := ⟨b, off + j * 2, none⟩) hb).trans (h0 j hj)
    have g1 : ∀ j, j < n → wr.cell? ⟨b, off + j * 2 + 1, none⟩ = some (val j) := fun j hj => (hbw.cell (p := ⟨b, off + j * 2 + 1, none⟩) hb).trans (h1 j hj)
    have HS := Lib.hid hs; have HLO := Lib.hid hlo; have HHI := Lib.hid hhi; have H0 := Lib.hid g0; have H1 := Lib.hid g1; have HM := Lib.hid hmono
    clear hs hlo hhi h0 h1 g0 g1 hmono
    by_cases hlt : x < y
    · have g0 := H0.out ((x + y) / 2) (by omega)
      have g1 := H1.out ((x + y) / 2) (by omega)
      go_wp2_with (go_at_call 43; refine (find1_intstring _ _ _ _).mono ?_; rintro e w' ⟨rfl, hb1⟩)
      · have hc : cmpI (key ((x + y) / 2)) k < 0 := by assumption
        go_roundw
        case rel => exact ⟨(x + y) / 2 + 1, y, by go_num, rfl, by omega, by omega, fun t ht => HM.out t _ (by omega) (by omega) hc, HHI.out, hbw.trans (hb1.mono hbw.size)⟩
        case measure => simp [intOf]; omega
      · have hc : 0 ≤ cmpI (key ((x + y) / 2)) k := by assumption
        go_roundw
        case rel => exact ⟨x, (x + y) / 2, rfl, by go_num, by omega, by omega, HLO.out, fun t ht htn => by
          rcases Nat.lt_or_ge t y with h | h
          · have := HM.out ((x + y) / 2) t (by omega) htn
            omega
          · exact HHI.out t h htn, hbw.trans (hb1.mono hbw.size)⟩
        case measure => simp [intOf]; omega
    · have HX : x = y := by omega
      subst HX
      have hfin : ∀ w', Below wr.heap.size wr w' → ∀ b, b = (decide (x < n) && cmpI (key x) k == 0) → BsPost n (fun j => cmpI (key j) k) w (.returned (.tuple #[.int .i64 x, .bool b])) w' :=
        fun w' hb1 b hb => ⟨x, hyn, HLO.out, HHI.out, by rw [hb], hbw.trans (hb1.mono hbw.size)⟩
      have HF := Lib.hid hfin; clear hfin
      by_cases hlt : x < n
      · have g0 := H0.out x (by omega)
        have g1 := H1.out x (by omega)
        go_wp2_with (go_at_call 43; refine (find1_intstring _ _ _ _).mono ?_; rintro e w' ⟨rfl, hb1⟩)
        go_ret2
        exact HF.out _ hb1 _ (by simp [hlt])
      · go_wp2_with fail
        go_ret2
        exact HF.out _ (Below.refl _ _) _ (by simp [hlt])

set_option maxRecDepth 100000 in
set_option maxHeartbeats 400000 in
theorem bsf_nil_intstring (k : Int) (w : World) (r : Nat → Int) :
    Calls Try.prog 42 #[.slice none 0 0, .int .i64 k, .func (.func 43) #[] #[]] w (BsPost 0 r w) := by
  go_enter Try.func42, Try.ntmps42
  go_wp2_with fail
  go_loopw [9, 10] (fun i j wr => i = .int .i64 0 ∧ j = .int .i64 0 ∧ w = wr) (fun i j _ => (intOf j).toNat - (intOf i).toNat)
  case atStart => exact ⟨rfl, rfl, rfl⟩
  case round =>
    obtain ⟨rfl, rfl, rfl⟩ := hrel
    have hfin : BsPost 0 r w (.returned (.tuple #[.int .i64 0, .bool false])) w := ⟨0, by omega, by omega, by omega, by simp, Below.refl _ _⟩
    have HF := Lib.hid hfin; clear hfin
    go_wp2_with fail
    go_ret2
    exact HF.out
set_option maxHeartbeats 400000 in
theorem find1_stringint (k : ByteArray) (v : Value) (b : ByteArray) (w : World) :
    Calls Try.prog 48 #[.agg #[.string k, v], .string b] w fun e w' => e = .returned (.int .i64 (cmpS k b)) ∧ Below w.heap.size w w' := by
  go_enter Try.func48, Try.ntmps48
  go_wp2_with (go_at_call 49; refine (compare_string _ _ _).mono ?_; rintro e w' ⟨rfl, rfl⟩)
  go_ret
  exact ⟨rfl, (Below.refl _ _).alloc (Nat.le_refl _) _⟩

set_option maxRecDepth 100000 in
set_option maxHeartbeats 400000 in
theorem bsf_stringint (b off : Nat) (n c : Nat) (k : ByteArray) (w : World) (hn : n ≤ 1000000) (key : Nat → ByteArray) (val : Nat → Value)
    (hs : ∀ i j, i < j → j < n → cmpS (key i) (key j) < 0)
    (h0 : ∀ j, j < n → w.cell? ⟨b, off + j * 2, none⟩ = some (.string (key j)))
    (h1 : ∀ j, j < n → w.cell? ⟨b, off + j * 2 + 1, none⟩ = some (val j)) (hb : b < w.heap.size) :
    Calls Try.prog 47 #[.slice (some ⟨b, off, none⟩) n c, .string k, .func (.func 48) #[] #[]] w (BsPost n (fun j => cmpS (key j) k) w) := by
  have hmono : ∀ i j, i ≤ j → j < n → cmpS (key j) k < 0 → cmpS (key i) k < 0 := fun i j hij hj h => by
    rcases Nat.eq_or_lt_of_le hij with rfl | hlt
    · exact h
    · exact (cmpS_ok).trans _ _ _ (hs i j hlt hj) h
  go_enter Try.func47, Try.ntmps47
  go_wp2_with fail
  go_loopw [9, 10] (fun i j wr => ∃ x y : Nat, i = .int .i64 x ∧ j = .int .i64 y ∧ x ≤ y ∧ y ≤ n ∧ (∀ t, t < x → cmpS (key t) k < 0) ∧ (∀ t, y ≤ t → t < n → 0 ≤ cmpS (key t) k) ∧ Below w.heap.size w wr) (fun i j _ => (intOf j).toNat - (intOf i).toNat)
  case atStart => exact ⟨0, n, rfl, rfl, by omega, by omega, by omega, by omega, Below.refl _ _⟩
  case round =>
    obtain ⟨x, y, rfl, rfl, hxy, hyn, hlo, hhi, hbw⟩ := hrel
    have g0 : ∀ j, j < n → wr.cell? ⟨b, off + j * 2, none⟩ = some (.string (key j)) := fun j hj => (hbw.cell (p := ⟨b, off + j * 2, none⟩) hb).trans (h0 j hj)
    have g1 : ∀ j, j < n → wr.cell? ⟨b, off + j * 2 + 1, none⟩ = some (val j) := fun j hj => (hbw.cell (p := ⟨b, off + j * 2 + 1, none⟩) hb).trans (h1 j hj)
    have HS := Lib.hid hs; have HLO := Lib.hid hlo; have HHI := Lib.hid hhi; have H0 := Lib.hid g0; have H1 := Lib.hid g1; have HM := Lib.hid hmono
    clear hs hlo hhi h0 h1 g0 g1 hmono
    by_cases hlt : x < y
    · have g0 := H0.out ((x + y) / 2) (by omega)
      have g1 := H1.out ((x + y) / 2) (by omega)
      go_wp2_with (go_at_call 48; refine (find1_stringint _ _ _ _).mono ?_; rintro e w' ⟨rfl, hb1⟩)
      · have hc : cmpS (key ((x + y) / 2)) k < 0 := by assumption
        go_roundw
        case rel => exact ⟨(x + y) / 2 + 1, y, by go_num, rfl, by omega, by omega, fun t ht => HM.out t _ (by omega) (by omega) hc, HHI.out, hbw.trans (hb1.mono hbw.size)⟩
        case measure => simp [intOf]; omega
      · have hc : 0 ≤ cmpS (key ((x + y) / 2)) k := by assumption
        go_roundw
        case rel => exact ⟨x, (x + y) / 2, rfl, by go_num, by omega, by omega, HLO.out, fun t ht htn => by
          rcases Nat.lt_or_ge t y with h | h
          · have := HM.out ((x + y) / 2) t (by omega) htn
            omega
          · exact HHI.out t h htn, hbw.trans (hb1.mono hbw.size)⟩
        case measure => simp [intOf]; omega
    · have HX : x = y := by omega
      subst HX
      have hfin : ∀ w', Below wr.heap.size wr w' → ∀ b, b = (decide (x < n) && cmpS (key x) k == 0) → BsPost n (fun j => cmpS (key j) k) w (.returned (.tuple #[.int .i64 x, .bool b])) w' :=
        fun w' hb1 b hb => ⟨x, hyn, HLO.out, HHI.out, by rw [hb], hbw.trans (hb1.mono hbw.size)⟩
      have HF := Lib.hid hfin; clear hfin
      by_cases hlt : x < n
      · have g0 := H0.out x (by omega)
        have g1 := H1.out x (by omega)
        go_wp2_with (go_at_call 48; refine (find1_stringint _ _ _ _).mono ?_; rintro e w' ⟨rfl, hb1⟩)
        go_ret2
        exact HF.out _ hb1 _ (by simp [hlt])
      · go_wp2_with fail
        go_ret2
        exact HF.out _ (Below.refl _ _) _ (by simp [hlt])

set_option maxRecDepth 100000 in
set_option maxHeartbeats 400000 in
theorem bsf_nil_stringint (k : ByteArray) (w : World) (r : Nat → Int) :
    Calls Try.prog 47 #[.slice none 0 0, .string k, .func (.func 48) #[] #[]] w (BsPost 0 r w) := by
  go_enter Try.func47, Try.ntmps47
  go_wp2_with fail
  go_loopw [9, 10] (fun i j wr => i = .int .i64 0 ∧ j = .int .i64 0 ∧ w = wr) (fun i j _ => (intOf j).toNat - (intOf i).toNat)
  case atStart => exact ⟨rfl, rfl, rfl⟩
  case round =>
    obtain ⟨rfl, rfl, rfl⟩ := hrel
    have hfin : BsPost 0 r w (.returned (.tuple #[.int .i64 0, .bool false])) w := ⟨0, by omega, by omega, by omega, by simp, Below.refl _ _⟩
    have HF := Lib.hid hfin; clear hfin
    go_wp2_with fail
    go_ret2
    exact HF.out
set_option maxHeartbeats 400000 in
theorem find1_intint (k : Int) (v : Value) (b : Int) (w : World) :
    Calls Try.prog 40 #[.agg #[.int .i64 k, v], .int .i64 b] w fun e w' => e = .returned (.int .i64 (cmpI k b)) ∧ Below w.heap.size w w' := by
  go_enter Try.func40, Try.ntmps40
  go_wp2_with (go_at_call 41; refine (compare_int _ _ _).mono ?_; rintro e w' ⟨rfl, rfl⟩)
  go_ret
  exact ⟨rfl, (Below.refl _ _).alloc (Nat.le_refl _) _⟩

set_option maxRecDepth 100000 in
set_option maxHeartbeats 400000 in
theorem bsf_intint (b off : Nat) (n c : Nat) (k : Int) (w : World) (hn : n ≤ 1000000) (key : Nat → Int) (val : Nat → Value)
    (hs : ∀ i j, i < j → j < n → cmpI (key i) (key j) < 0)
    (h0 : ∀ j, j < n → w.cell? ⟨b, off + j * 2, none⟩ = some (.int .i64 (key j)))
    (h1 : ∀ j, j < n → w.cell? ⟨b, off + j * 2 + 1, none⟩ = some (val j)) (hb : b < w.heap.size) :
    Calls Try.prog 39 #[.slice (some ⟨b, off, none⟩) n c, .int .i64 k, .func (.func 40) #[] #[]] w (BsPost n (fun j => cmpI (key j) k) w) := by
  have hmono : ∀ i j, i ≤ j → j < n → cmpI (key j) k < 0 → cmpI (key i) k < 0 := fun i j hij hj h => by
    rcases Nat.eq_or_lt_of_le hij with rfl | hlt
    · exact h
    · exact (cmpI_ok).trans _ _ _ (hs i j hlt hj) h
  go_enter Try.func39, Try.ntmps39
  go_wp2_with fail
  go_loopw [9, 10] (fun i j wr => ∃ x y : Nat, i = .int .i64 x ∧ j = .int .i64 y ∧ x ≤ y ∧ y ≤ n ∧ (∀ t, t < x → cmpI (key t) k < 0) ∧ (∀ t, y ≤ t → t < n → 0 ≤ cmpI (key t) k) ∧ Below w.heap.size w wr) (fun i j _ => (intOf j).toNat - (intOf i).toNat)
  case atStart => exact ⟨0, n, rfl, rfl, by omega, by omega, by omega, by omega, Below.refl _ _⟩
  case round =>
    obtain ⟨x, y, rfl, rfl, hxy, hyn, hlo, hhi, hbw⟩ := hrel
    have g0 : ∀ j, j < n → wr.cell? ⟨b, off + j * 2, none⟩ = some (.int .i64 (key j)) := fun j hj => (hbw.cell (p := ⟨b, off + j * 2, none⟩) hb).trans (h0 j hj)
    have g1 : ∀ j, j < n → wr.cell? ⟨b, off + j * 2 + 1, none⟩ = some (val j) := fun j hj => (hbw.cell (p := ⟨b, off + j * 2 + 1, none⟩) hb).trans (h1 j hj)
    have HS := Lib.hid hs; have HLO := Lib.hid hlo; have HHI := Lib.hid hhi; have H0 := Lib.hid g0; have H1 := Lib.hid g1; have HM := Lib.hid hmono
    clear hs hlo hhi h0 h1 g0 g1 hmono
    by_cases hlt : x < y
    · have g0 := H0.out ((x + y) / 2) (by omega)
      have g1 := H1.out ((x + y) / 2) (by omega)
      go_wp2_with (go_at_call 40; refine (find1_intint _ _ _ _).mono ?_; rintro e w' ⟨rfl, hb1⟩)
      · have hc : cmpI (key ((x + y) / 2)) k < 0 := by assumption
        go_roundw
        case rel => exact ⟨(x + y) / 2 + 1, y, by go_num, rfl, by omega, by omega, fun t ht => HM.out t _ (by omega) (by omega) hc, HHI.out, hbw.trans (hb1.mono hbw.size)⟩
        case measure => simp [intOf]; omega
      · have hc : 0 ≤ cmpI (key ((x + y) / 2)) k := by assumption
        go_roundw
        case rel => exact ⟨x, (x + y) / 2, rfl, by go_num, by omega, by omega, HLO.out, fun t ht htn => by
          rcases Nat.lt_or_ge t y with h | h
          · have := HM.out ((x + y) / 2) t (by omega) htn
            omega
          · exact HHI.out t h htn, hbw.trans (hb1.mono hbw.size)⟩
        case measure => simp [intOf]; omega
    · have HX : x = y := by omega
      subst HX
      have hfin : ∀ w', Below wr.heap.size wr w' → ∀ b, b = (decide (x < n) && cmpI (key x) k == 0) → BsPost n (fun j => cmpI (key j) k) w (.returned (.tuple #[.int .i64 x, .bool b])) w' :=
        fun w' hb1 b hb => ⟨x, hyn, HLO.out, HHI.out, by rw [hb], hbw.trans (hb1.mono hbw.size)⟩
      have HF := Lib.hid hfin; clear hfin
      by_cases hlt : x < n
      · have g0 := H0.out x (by omega)
        have g1 := H1.out x (by omega)
        go_wp2_with (go_at_call 40; refine (find1_intint _ _ _ _).mono ?_; rintro e w' ⟨rfl, hb1⟩)
        go_ret2
        exact HF.out _ hb1 _ (by simp [hlt])
      · go_wp2_with fail
        go_ret2
        exact HF.out _ (Below.refl _ _) _ (by simp [hlt])

set_option maxRecDepth 100000 in
set_option maxHeartbeats 400000 in
theorem bsf_nil_intint (k : Int) (w : World) (r : Nat → Int) :
    Calls Try.prog 39 #[.slice none 0 0, .int .i64 k, .func (.func 40) #[] #[]] w (BsPost 0 r w) := by
  go_enter Try.func39, Try.ntmps39
  go_wp2_with fail
  go_loopw [9, 10] (fun i j wr => i = .int .i64 0 ∧ j = .int .i64 0 ∧ w = wr) (fun i j _ => (intOf j).toNat - (intOf i).toNat)
  case atStart => exact ⟨rfl, rfl, rfl⟩
  case round =>
    obtain ⟨rfl, rfl, rfl⟩ := hrel
    have hfin : BsPost 0 r w (.returned (.tuple #[.int .i64 0, .bool false])) w := ⟨0, by omega, by omega, by omega, by simp, Below.refl _ _⟩
    have HF := Lib.hid hfin; clear hfin
    go_wp2_with fail
    go_ret2
    exact HF.out

end Go.Proofs.Ytfoaalfkjknklaa
