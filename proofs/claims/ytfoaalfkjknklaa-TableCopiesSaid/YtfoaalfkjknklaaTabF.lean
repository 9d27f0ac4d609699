/- The table's Count, by contract. Conditions: each theorem's own. -/
import Derived.Test.YtfoaalfkjknklaaTabE
import Derived.Test.YtfoaalfkjknklaaTabP
namespace Go.Proofs.Ytfoaalfkjknklaa
open Go.RowKit

/-- What a call that makes a table leaves. -/
structure NewTbl {κ ν : Type} (T E : TypeId) (kv : κ → Value) (vv : ν → Value) (w : World) (l : List (κ × ν)) (e : Ending) (w' : World) : Prop where
  ex : ∃ g v, e = .returned (.pointer (some ⟨g, 0, none⟩)) ∧ Tbl T E kv vv w' g v l ∧ Below w.heap.size w w' ∧ w.heap.size ≤ g ∧ ∀ b, v.ownBlock = some b → w.heap.size ≤ b

set_option maxHeartbeats 400000 in
theorem count_int (A : Option Addr) (c : Nat) (ks : List Int) (w : World) (hn : ks.length ≤ 1000000)
    (hA : ∀ i (hi : i < ks.length), ∃ b o, A = some ⟨b, o, none⟩ ∧ b < w.heap.size ∧ w.cell? ⟨b, o + i, none⟩ = some (.int .i64 ks[i])) :
    Calls Try.prog 8 #[.slice A ks.length c] w (NewTbl 63 66 (fun k => .int .i64 k) (fun x => .int .i64 x) w (tcount cmpI ks)) := by
  have HA := Lib.hid hA; clear hA
  go_enter Try.func8, Try.ntmps8
  go_wp2_with fail
  go_loopw [12] (fun i wr => ∃ (k : Nat) (v : Value), k ≤ ks.length ∧ i = .int .i64 k ∧ Tblintint wr w.heap.size v (tcount cmpI (ks.take k)) ∧ Below w.heap.size w wr ∧ (∀ b, v.ownBlock = some b → w.heap.size ≤ b)) (fun i _ => ks.length - (intOf i).toNat)
  case atStart => exact ⟨0, .slice none 0 0, by omega, rfl, ⟨Blk.new _ _ _, World.ownsRow_nil _ _ _ _⟩, (Below.refl _ _).alloc (Nat.le_refl _) _, by simp [Value.ownBlock]⟩
  case round =>
    obtain ⟨k, v, hk, rfl, hT, hb, hf⟩ := hrel
    by_cases hlt : k < ks.length
    · obtain ⟨b, o, rfl, hbl, h0⟩ := HA.out k hlt
      have g0 := (hb.cell (p := ⟨b, o + k, none⟩) hbl).trans h0
      have hs := srt_tcount (ks := ks.take k) cmpI_ok
      have hl := length_tcount (cmp := cmpI) (ks.take k)
      have hl2 : (tcount cmpI (ks.take k)).length ≤ 1000000 := by rw [List.length_take] at hl; omega
      have hsn : tcount cmpI (ks.take (k + 1)) = tset cmpI (tcount cmpI (ks.take k)) ks[k] (wrap64 ((tval cmpI (tcount cmpI (ks.take k)) ks[k]).getD 0 + 1)) := by
        rw [List.take_succ_eq_append_getElem hlt, tcount_snoc]; rfl
      obtain ⟨x, hx⟩ : ∃ x, x = (tval cmpI (tcount cmpI (ks.take k)) ks[k]).getD 0 := ⟨_, rfl⟩
      have hget := fun (w1 : World) (hw : Below wr.heap.size wr w1) => get_intint w.heap.size v _ ks[k] w1 (hT.below hw) hs hl2
      have hset := fun (w1 : World) (hw : Below wr.heap.size wr w1) => set_intint w.heap.size v _ ks[k] (wrap64 (x + 1)) w1 (hT.below hw) hs hl2
      have hx' : x = ((tget cmpI (tcount cmpI (ks.take k)) ks[k]).map (·.2)).getD 0 := hx
      have hsz := hb.size
      have hrel : ∀ w1 w2 r e, Below wr.heap.size wr w1 → TblPost 63 66 (fun k => .int .i64 k) (fun x => .int .i64 x) w1 w.heap.size v r (tset cmpI (tcount cmpI (ks.take k)) ks[k] (wrap64 (x + 1))) e w2 →
          ∃ v', e = .returned r ∧ Tblintint w2 w.heap.size v' (tcount cmpI (ks.take (k + 1))) ∧ Below w.heap.size w w2 ∧ (∀ b, v'.ownBlock = some b → w.heap.size ≤ b) := fun w1 w2 r e h1 h2 => by
        obtain ⟨v', he, ht, hfr, hv'⟩ := h2
        rw [← hx] at hsn
        have hsz1 := h1.size
        refine ⟨v', he, by rw [hsn]; exact ht, (hb.trans (h1.mono hsz)).trans (hfr.below (by omega) (fun y hy => ?_)), fun b hb => ?_⟩
        · simp at hy
          rcases hy with rfl | hy
          · exact Nat.le_refl _
          · exact hf _ hy.symm
        · rcases hv' with h | h
          · exact hf b (by rw [← h]; exact hb)
          · have := h b hb; omega
      have HG := Lib.hid hget; have HS := Lib.hid hset; have HR := Lib.hid hrel; have HX := Lib.hid hx'
      clear hget hset hrel hx hx' hsn hs hl hl2 hT hf h0
      generalize ks[k] = key at *
      go_wp2_with (first
        | (go_at_call 9; refine (HG.out _ (Below.refl _ _)).mono ?_; rintro e w1 ⟨rfl, hb1⟩; rw [← HX.out])
        | (go_at_call 25; refine (HS.out _ hb1).mono ?_; intro e w2 hp; obtain ⟨v', rfl, ht, hbb, hff⟩ := HR.out _ _ _ _ hb1 hp))
      go_roundw
      case rel => exact ⟨k + 1, v', by omega, by go_num, ht, hbb, hff⟩
      case measure => simp [intOf]; omega
    · have hkl : k = ks.length := by omega
      have hfin : NewTbl 63 66 (fun k => .int .i64 k) (fun x => .int .i64 x) w (tcount cmpI ks) (.returned (.pointer (some ⟨w.heap.size, 0, none⟩))) wr :=
        ⟨_, _, rfl, by rw [hkl, List.take_length] at hT; exact hT, hb, Nat.le_refl _, hf⟩
      have HF := Lib.hid hfin
      clear hkl hT hb hf hfin
      go_wp2_with fail
      go_ret
      exact HF.out
set_option maxHeartbeats 400000 in
theorem count_string (A : Option Addr) (c : Nat) (ks : List ByteArray) (w : World) (hn : ks.length ≤ 1000000)
    (hA : ∀ i (hi : i < ks.length), ∃ b o, A = some ⟨b, o, none⟩ ∧ b < w.heap.size ∧ w.cell? ⟨b, o + i, none⟩ = some (.string ks[i])) :
    Calls Try.prog 23 #[.slice A ks.length c] w (NewTbl 77 80 (fun k => .string k) (fun x => .int .i64 x) w (tcount cmpS ks)) := by
  have HA := Lib.hid hA; clear hA
  go_enter Try.func23, Try.ntmps23
  go_wp2_with fail
  go_loopw [12] (fun i wr => ∃ (k : Nat) (v : Value), k ≤ ks.length ∧ i = .int .i64 k ∧ Tblstringint wr w.heap.size v (tcount cmpS (ks.take k)) ∧ Below w.heap.size w wr ∧ (∀ b, v.ownBlock = some b → w.heap.size ≤ b)) (fun i _ => ks.length - (intOf i).toNat)
  case atStart => exact ⟨0, .slice none 0 0, by omega, rfl, ⟨Blk.new _ _ _, World.ownsRow_nil _ _ _ _⟩, (Below.refl _ _).alloc (Nat.le_refl _) _, by simp [Value.ownBlock]⟩
  case round =>
    obtain ⟨k, v, hk, rfl, hT, hb, hf⟩ := hrel
    by_cases hlt : k < ks.length
    · obtain ⟨b, o, rfl, hbl, h0⟩ := HA.out k hlt
      have g0 := (hb.cell (p := ⟨b, o + k, none⟩) hbl).trans h0
      have hs := srt_tcount (ks := ks.take k) cmpS_ok
      have hl := length_tcount (cmp := cmpS) (ks.take k)
      have hl2 : (tcount cmpS (ks.take k)).length ≤ 1000000 := by rw [List.length_take] at hl; omega
      have hsn : tcount cmpS (ks.take (k + 1)) = tset cmpS (tcount cmpS (ks.take k)) ks[k] (wrap64 ((tval cmpS (tcount cmpS (ks.take k)) ks[k]).getD 0 + 1)) := by
        rw [List.take_succ_eq_append_getElem hlt, tcount_snoc]; rfl
      obtain ⟨x, hx⟩ : ∃ x, x = (tval cmpS (tcount cmpS (ks.take k)) ks[k]).getD 0 := ⟨_, rfl⟩
      have hget := fun (w1 : World) (hw : Below wr.heap.size wr w1) => get_stringint w.heap.size v _ ks[k] w1 (hT.below hw) hs hl2
      have hset := fun (w1 : World) (hw : Below wr.heap.size wr w1) => set_stringint w.heap.size v _ ks[k] (wrap64 (x + 1)) w1 (hT.below hw) hs hl2
      have hx' : x = ((tget cmpS (tcount cmpS (ks.take k)) ks[k]).map (·.2)).getD 0 := hx
      have hsz := hb.size
      have hrel : ∀ w1 w2 r e, Below wr.heap.size wr w1 → TblPost 77 80 (fun k => .string k) (fun x => .int .i64 x) w1 w.heap.size v r (tset cmpS (tcount cmpS (ks.take k)) ks[k] (wrap64 (x + 1))) e w2 →
          ∃ v', e = .returned r ∧ Tblstringint w2 w.heap.size v' (tcount cmpS (ks.take (k + 1))) ∧ Below w.heap.size w w2 ∧ (∀ b, v'.ownBlock = some b → w.heap.size ≤ b) := fun w1 w2 r e h1 h2 => by
        obtain ⟨v', he, ht, hfr, hv'⟩ := h2
        rw [← hx] at hsn
        have hsz1 := h1.size
        refine ⟨v', he, by rw [hsn]; exact ht, (hb.trans (h1.mono hsz)).trans (hfr.below (by omega) (fun y hy => ?_)), fun b hb => ?_⟩
        · simp at hy
          rcases hy with rfl | hy
          · exact Nat.le_refl _
          · exact hf _ hy.symm
        · rcases hv' with h | h
          · exact hf b (by rw [← h]; exact hb)
          · have := h b hb; omega
      have HG := Lib.hid hget; have HS := Lib.hid hset; have HR := Lib.hid hrel; have HX := Lib.hid hx'
      clear hget hset hrel hx hx' hsn hs hl hl2 hT hf h0
      generalize ks[k] = key at *
      go_wp2_with (first
        | (go_at_call 24; refine (HG.out _ (Below.refl _ _)).mono ?_; rintro e w1 ⟨rfl, hb1⟩; rw [← HX.out])
        | (go_at_call 36; refine (HS.out _ hb1).mono ?_; intro e w2 hp; obtain ⟨v', rfl, ht, hbb, hff⟩ := HR.out _ _ _ _ hb1 hp))
      go_roundw
      case rel => exact ⟨k + 1, v', by omega, by go_num, ht, hbb, hff⟩
      case measure => simp [intOf]; omega
    · have hkl : k = ks.length := by omega
      have hfin : NewTbl 77 80 (fun k => .string k) (fun x => .int .i64 x) w (tcount cmpS ks) (.returned (.pointer (some ⟨w.heap.size, 0, none⟩))) wr :=
        ⟨_, _, rfl, by rw [hkl, List.take_length] at hT; exact hT, hb, Nat.le_refl _, hf⟩
      have HF := Lib.hid hfin
      clear hkl hT hb hf hfin
      go_wp2_with fail
      go_ret
      exact HF.out

end Go.Proofs.Ytfoaalfkjknklaa
