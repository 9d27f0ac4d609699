/- The law's 'small' on lists of calls, walked. Conditions: the argument reads as calls. -/
import Derived.Test.YtfoaalfkjknklaaTabH
namespace Go.Proofs.Ytfoaalfkjknklaa
open Go.RowKit
theorem ret_bool {a b : Bool} (h : a = b) : Ending.returned (.bool a) = .returned (.bool b) := by rw [h]
structure TOp where
  kind : Int
  k : Int
  v : ByteArray
/-- The slice A reads as the calls ops. -/
def IsOps (w : World) (A : Option Addr) (ops : List TOp) : Prop := ∀ i (hi : i < ops.length), ∃ b o, A = some ⟨b, o, none⟩ ∧ b < w.heap.size ∧ w.cell? ⟨b, o + i * 3, none⟩ = some (.int .i64 ops[i].kind) ∧ w.cell? ⟨b, o + i * 3 + 1, none⟩ = some (.int .i64 ops[i].k) ∧ w.cell? ⟨b, o + i * 3 + 2, none⟩ = some (.string ops[i].v)
theorem IsOps.below {w w' : World} {A : Option Addr} {ops : List TOp} (h : IsOps w A ops) (hb : Below w.heap.size w w') : IsOps w' A ops := fun i hi => by
  obtain ⟨b, o, rfl, hbl, h0, h1, h2⟩ := h i hi
  have hs := hb.size
  exact ⟨b, o, rfl, by omega, (hb.cell (p := ⟨b, _, none⟩) hbl).trans h0, (hb.cell (p := ⟨b, _, none⟩) hbl).trans h1, (hb.cell (p := ⟨b, _, none⟩) hbl).trans h2⟩
def smallB (ops : List TOp) : Bool := ops.all (fun o => decide (o.v.size ≤ 50)) && decide (ops.length ≤ 100)
theorem smallB_len {ops : List TOp} (h : smallB ops = true) : ops.length ≤ 100 := by unfold smallB at h; simp at h; exact h.2
set_option maxHeartbeats 400000 in
theorem small_any (A : Option Addr) (c : Nat) (ops : List TOp) (w : World) (hA : IsOps w A ops) (hm : ops.length ≤ 9223372036854775807) :
    Calls Try.prog 11 #[.slice A ops.length c] w fun e w' => e = .returned (.bool (smallB ops)) ∧ Below w.heap.size w w' := by
  have HA := Lib.hid hA; clear hA
  go_enter Try.func11, Try.ntmps11
  go_wp2_with fail
  go_loopw [7] (fun i wr => ∃ k : Nat, k ≤ ops.length ∧ i = .int .i64 k ∧ Below w.heap.size w wr ∧ (ops.take k).all (fun o => decide (o.v.size ≤ 50)) = true) (fun i _ => ops.length - (intOf i).toNat)
  case atStart => exact ⟨0, by omega, rfl, Below.refl _ _, by simp⟩
  case round =>
    obtain ⟨k, hk, rfl, hb, hall⟩ := hrel
    by_cases hlt : k < ops.length
    · obtain ⟨b, o, rfl, hbl, h0, h1, h2⟩ := (IsOps.below HA.out (hb.mono (Nat.le_refl _))) k hlt
      have hst : ops[k].v.size ≤ 50 → (ops.take (k + 1)).all (fun o => decide (o.v.size ≤ 50)) = true := fun h => by
        rw [List.take_succ_eq_append_getElem hlt, List.all_append, hall]; simpa using h
      have hno : 50 < ops[k].v.size → smallB ops = false := fun h => by
        unfold smallB
        rw [List.all_eq_false.2 ⟨ops[k], List.getElem_mem hlt, by simpa using h⟩]; rfl
      have HST := Lib.hid hst; have HNO := Lib.hid hno; clear hst hno hall
      have hb0 := hb.size
      generalize ops[k] = q at *
      obtain ⟨q0, q1, q2⟩ := q
      simp only at h0 h1 h2 HST HNO
      by_cases h50 : q2.size ≤ 50
      · go_wp2_with fail
        go_roundw
        case rel => exact ⟨k + 1, by omega, by go_num, hb.alloc hb.size _, HST.out h50⟩
        case measure => simp [intOf]; omega
      · go_wp2_with fail
        go_ret
        exact ⟨by rw [HNO.out (by omega)]; rfl, hb.alloc hb.size _⟩
    · have hfin : smallB ops = decide (ops.length ≤ 100) := by
        have : k = ops.length := by omega
        rw [this, List.take_length] at hall
        unfold smallB; rw [hall]; rfl
      have HF := Lib.hid hfin
      clear hfin hall HA
      go_wp2_with fail
      go_ret
      exact ⟨ret_bool (by rw [HF.out, Bool.eq_iff_iff]; simp; omega), hb⟩
end Go.Proofs.Ytfoaalfkjknklaa
