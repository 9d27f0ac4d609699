/- The table's Keys and Count, by contract. Conditions: each theorem's own. -/
import Derived.Test.YtfoaalfkjknklaaTabD
namespace Go.Proofs.Ytfoaalfkjknklaa
open Go.RowKit

/-- What a call that makes a row leaves. -/
structure RowPost (w : World) (e : TypeId) (sz n : Nat) (xs : List Value) (r : Ending) (w' : World) : Prop where
  ex : ∃ v', r = .returned v' ∧ w'.ownsRow 0 e sz v' n xs ∧ Below w.heap.size w w' ∧ ∀ b, v'.ownBlock = some b → w.heap.size ≤ b
theorem info_int : (Try.prog.info? 3).map (fun i => (i.zero, i.size, i.bytes, (Value.int .i64 0).cells.size)) = some (some (.int .i64 0), 1, 8, 1) := by kernel_rfl
theorem info_string : (Try.prog.info? 9).map (fun i => (i.zero, i.size, i.bytes, (Value.string ⟨#[]⟩).cells.size)) = some (some (.string ⟨#[]⟩), 1, 16, 1) := by kernel_rfl

set_option maxHeartbeats 400000 in
theorem keys_intstring (g : Nat) (v : Value) (l : List (Int × ByteArray)) (w : World) (hT : Tblintstring w g v l) (hn : l.length ≤ 1000000) :
    Calls Try.prog 22 #[.pointer (some ⟨g, 0, none⟩)] w (RowPost w 3 1 l.length (l.map fun e => .int .i64 e.1)) := by
  obtain ⟨i0, hi0, hz0, hz1, hz2, hz3⟩ := info_parts4 info_int
  have hc := hT.cell
  have hslice := own_slice hT.own
  obtain ⟨A, c, rfl⟩ := hslice
  have hcells : ∀ i (hi : i < l.length), ∃ r, A = some ⟨r, 0, none⟩ ∧ r < w.heap.size ∧ w.cell? ⟨r, i * 2, none⟩ = some (.int .i64 l[i].1) ∧ w.cell? ⟨r, i * 2 + 1, none⟩ = some (.string l[i].2) := fun i hi => by
    obtain ⟨r, cap, hv, hrl, _, _, h0, h1, _⟩ := hT.row (by omega)
    injection hv with hA
    exact ⟨r, hA, hrl, h0 i hi, h1 i hi⟩
  have HC := Lib.hid hcells
  have hgl := hT.blk.lt
  clear hT hcells
  go_enter Try.func22, Try.ntmps22
  go_wp2_with fail
  go_loopw [3, 11] (fun o i wr => ∃ k : Nat, k ≤ l.length ∧ i = .int .i64 k ∧ wr.ownsRow 0 3 1 o k ((l.take k).map fun e => .int .i64 e.1) ∧ Below w.heap.size w wr ∧ (∀ b, o.ownBlock = some b → w.heap.size ≤ b)) (fun _ i _ => l.length - (intOf i).toNat)
  case atStart => exact ⟨0, by omega, rfl, World.ownsRow_nil _ _ _ _, Below.refl _ _, by simp [Value.ownBlock]⟩
  case round =>
    obtain ⟨k, hk, rfl, ho, hb, hf⟩ := hrel
    by_cases hlt : k < l.length
    · obtain ⟨r, rfl, hrl, h0, h1⟩ := HC.out k hlt
      have g0 := (hb.cell (p := ⟨r, k * 2, none⟩) hrl).trans h0
      have g1 := (hb.cell (p := ⟨r, k * 2 + 1, none⟩) hrl).trans h1
      have hrw := Nat.lt_of_lt_of_le hrl hb.size
      clear h0 h1
      obtain ⟨vk, hvk⟩ : ∃ vk, vk = l[k].2 := ⟨_, rfl⟩
      rw [← hvk] at g1
      clear hvk
      obtain ⟨key, hkey⟩ : ∃ key, key = l[k].1 := ⟨_, rfl⟩
      rw [← hkey] at g0
      have HK := Lib.hid hkey; clear hkey
      have HO := Lib.hid ho; have HF := Lib.hid hf; clear ho hf
      have hrel : ∀ v' w', w'.ownsRow 0 3 1 v' (k + 1) (((l.take k).map fun e => .int .i64 e.1) ++ [.int .i64 key]) → (wr.alloc (.cells #[.int .i64 key, .string vk] 68)).grownBy w' u3.ownBlock →
          (u3.ownBlock = v'.ownBlock ∨ True) → w'.ownsRow 0 3 1 v' (k + 1) ((l.take (k + 1)).map fun e => .int .i64 e.1) ∧ Below w.heap.size w w' := fun v' w' h1 h2 _ =>
        ⟨by rw [List.take_succ_eq_append_getElem hlt, List.map_append, List.map_cons, List.map_nil, ← HK.out]; exact h1,
          (hb.alloc hb.size _).grown h2 (by have := hb.size; simp; omega) HF.out⟩
      have HR := Lib.hid hrel; clear hrel
      go_wp2_with (at_builtin; refine wpList_append_one rfl (.tmp 15) (.tmp 18) _ rfl Try.underlying22 hi0 hz0 hz1 hz2 hz3 (by omega) (v := u3) rfl (HO.out.alloc _) [.int .i64 key] rfl (by simp [Value.oneCell']) rfl (by simp) (by omega) (by omega) ?_; intro v' w' h1 h2 h3; obtain ⟨h4, h5⟩ := HR.out _ _ h1 h2 (.inr trivial); have H3 := Lib.hid h3; have H4 := Lib.hid h4; have H5 := Lib.hid h5; have H2 := Lib.hid h2; clear h1 h2 h3 h4 h5)
      go_roundw
      case rel => exact ⟨k + 1, by omega, by go_num, H4.out, H5.out, fun b hb1 => by
        rcases H3.out with h | h
        · exact HF.out b (by rw [← h]; exact hb1)
        · have := h b hb1; have := hb.size; simp at *; omega⟩
      case measure => simp [intOf]; omega
    · have hkl : k = l.length := by omega
      have hfin : RowPost w 3 1 l.length (l.map fun e => .int .i64 e.1) (.returned u3) wr := ⟨u3, rfl, by rw [hkl, List.take_length] at ho; exact ho, hb, hf⟩
      have HF := Lib.hid hfin
      have HKL := Lib.hid hkl
      clear hfin hkl ho hf
      go_wp2_with fail
      go_ret
      exact HF.out
set_option maxHeartbeats 400000 in
theorem keys_intint (g : Nat) (v : Value) (l : List (Int × Int)) (w : World) (hT : Tblintint w g v l) (hn : l.length ≤ 1000000) :
    Calls Try.prog 10 #[.pointer (some ⟨g, 0, none⟩)] w (RowPost w 3 1 l.length (l.map fun e => .int .i64 e.1)) := by
  obtain ⟨i0, hi0, hz0, hz1, hz2, hz3⟩ := info_parts4 info_int
  have hc := hT.cell
  have hslice := own_slice hT.own
  obtain ⟨A, c, rfl⟩ := hslice
  have hcells : ∀ i (hi : i < l.length), ∃ r, A = some ⟨r, 0, none⟩ ∧ r < w.heap.size ∧ w.cell? ⟨r, i * 2, none⟩ = some (.int .i64 l[i].1) ∧ w.cell? ⟨r, i * 2 + 1, none⟩ = some (.int .i64 l[i].2) := fun i hi => by
    obtain ⟨r, cap, hv, hrl, _, _, h0, h1, _⟩ := hT.row (by omega)
    injection hv with hA
    exact ⟨r, hA, hrl, h0 i hi, h1 i hi⟩
  have HC := Lib.hid hcells
  have hgl := hT.blk.lt
  clear hT hcells
  go_enter Try.func10, Try.ntmps10
  go_wp2_with fail
  go_loopw [3, 11] (fun o i wr => ∃ k : Nat, k ≤ l.length ∧ i = .int .i64 k ∧ wr.ownsRow 0 3 1 o k ((l.take k).map fun e => .int .i64 e.1) ∧ Below w.heap.size w wr ∧ (∀ b, o.ownBlock = some b → w.heap.size ≤ b)) (fun _ i _ => l.length - (intOf i).toNat)
  case atStart => exact ⟨0, by omega, rfl, World.ownsRow_nil _ _ _ _, Below.refl _ _, by simp [Value.ownBlock]⟩
  case round =>
    obtain ⟨k, hk, rfl, ho, hb, hf⟩ := hrel
    by_cases hlt : k < l.length
    · obtain ⟨r, rfl, hrl, h0, h1⟩ := HC.out k hlt
      have g0 := (hb.cell (p := ⟨r, k * 2, none⟩) hrl).trans h0
      have g1 := (hb.cell (p := ⟨r, k * 2 + 1, none⟩) hrl).trans h1
      have hrw := Nat.lt_of_lt_of_le hrl hb.size
      clear h0 h1
      obtain ⟨vk, hvk⟩ : ∃ vk, vk = l[k].2 := ⟨_, rfl⟩
      rw [← hvk] at g1
      clear hvk
      obtain ⟨key, hkey⟩ : ∃ key, key = l[k].1 := ⟨_, rfl⟩
      rw [← hkey] at g0
      have HK := Lib.hid hkey; clear hkey
      have HO := Lib.hid ho; have HF := Lib.hid hf; clear ho hf
      have hrel : ∀ v' w', w'.ownsRow 0 3 1 v' (k + 1) (((l.take k).map fun e => .int .i64 e.1) ++ [.int .i64 key]) → (wr.alloc (.cells #[.int .i64 key, .int .i64 vk] 66)).grownBy w' u3.ownBlock →
          (u3.ownBlock = v'.ownBlock ∨ True) → w'.ownsRow 0 3 1 v' (k + 1) ((l.take (k + 1)).map fun e => .int .i64 e.1) ∧ Below w.heap.size w w' := fun v' w' h1 h2 _ =>
        ⟨by rw [List.take_succ_eq_append_getElem hlt, List.map_append, List.map_cons, List.map_nil, ← HK.out]; exact h1,
          (hb.alloc hb.size _).grown h2 (by have := hb.size; simp; omega) HF.out⟩
      have HR := Lib.hid hrel; clear hrel
      go_wp2_with (at_builtin; refine wpList_append_one rfl (.tmp 15) (.tmp 18) _ rfl Try.underlying22 hi0 hz0 hz1 hz2 hz3 (by omega) (v := u3) rfl (HO.out.alloc _) [.int .i64 key] rfl (by simp [Value.oneCell']) rfl (by simp) (by omega) (by omega) ?_; intro v' w' h1 h2 h3; obtain ⟨h4, h5⟩ := HR.out _ _ h1 h2 (.inr trivial); have H3 := Lib.hid h3; have H4 := Lib.hid h4; have H5 := Lib.hid h5; have H2 := Lib.hid h2; clear h1 h2 h3 h4 h5)
      go_roundw
      case rel => exact ⟨k + 1, by omega, by go_num, H4.out, H5.out, fun b hb1 => by
        rcases H3.out with h | h
        · exact HF.out b (by rw [← h]; exact hb1)
        · have := h b hb1; have := hb.size; simp at *; omega⟩
      case measure => simp [intOf]; omega
    · have hkl : k = l.length := by omega
      have hfin : RowPost w 3 1 l.length (l.map fun e => .int .i64 e.1) (.returned u3) wr := ⟨u3, rfl, by rw [hkl, List.take_length] at ho; exact ho, hb, hf⟩
      have HF := Lib.hid hfin
      have HKL := Lib.hid hkl
      clear hfin hkl ho hf
      go_wp2_with fail
      go_ret
      exact HF.out

end Go.Proofs.Ytfoaalfkjknklaa
