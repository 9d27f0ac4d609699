/- The law's fixed answer 'awake': true. Conditions: none. -/
import Derived.Test.YtfoaalfkjknklaaTabF
namespace Go.Proofs.Ytfoaalfkjknklaa
open Go.RowKit

abbrev sA : ByteArray := ⟨#[97]⟩
abbrev sB : ByteArray := ⟨#[98]⟩
abbrev sX : ByteArray := ⟨#[120]⟩
abbrev sY : ByteArray := ⟨#[121]⟩
abbrev sZ : ByteArray := ⟨#[122]⟩
theorem aw1 : tset cmpI ([] : List (Int × ByteArray)) 3 sX = [(3, sX)] ∧ (tget cmpI ([] : List (Int × ByteArray)) 3).isNone = true := by decide
theorem aw2 : tset cmpI [(3, sX)] 1 sY = [(1, sY), (3, sX)] ∧ (tget cmpI [(3, sX)] 1).isNone = true := by decide
theorem aw3 : tset cmpI [(1, sY), (3, sX)] 3 sZ = [(1, sY), (3, sZ)] ∧ (tget cmpI [(1, sY), (3, sX)] 3).isNone = false := by decide
theorem aw4 : tget cmpI [(1, sY), (3, sZ)] 3 = some (3, sZ) := by decide
theorem aw5 : tcount cmpS [sA, sB, sA] = [(sA, 2), (sB, 1)] := by decide +kernel
theorem aw6 : tget cmpS [(sA, (2 : Int)), (sB, 1)] sA = some (sA, 2) := by decide +kernel
theorem srt1 : Srt cmpI ([(3, sX)] : List (Int × ByteArray)) := by simp [Srt]
theorem srt2 : Srt cmpI [(1, sY), (3, sX)] := by simp [Srt, cmpI]
theorem srt3 : Srt cmpI [(1, sY), (3, sZ)] := by simp [Srt, cmpI]
theorem srt4 : Srt cmpS [(sA, (2 : Int)), (sB, 1)] := aw5 ▸ srt_tcount cmpS_ok _

structure AwT (w0 w : World) (g : Nat) (v : Value) (l : List (Int × ByteArray)) : Prop where
  t : Tblintstring w g v l
  b : Below w0.heap.size w0 w
  g0 : w0.heap.size ≤ g
  v0 : ∀ b, v.ownBlock = some b → w0.heap.size ≤ b
theorem AwT.step {w0 w w' : World} {g : Nat} {v : Value} {l l' : List (Int × ByteArray)} {r : Value} {e : Ending} (h : AwT w0 w g v l) (hp : TblPost 35 68 (fun k => .int .i64 k) (fun x => .string x) w g v r l' e w') :
    ∃ v', e = .returned r ∧ AwT w0 w' g v' l' := by
  obtain ⟨v', he, ht, hf, hv⟩ := hp
  have hs := h.b.size
  refine ⟨v', he, ht, h.b.trans (hf.below hs fun x hx => ?_), h.g0, fun b hb => ?_⟩
  · simp at hx
    rcases hx with rfl | hx
    · exact h.g0
    · exact h.v0 _ hx.symm
  · rcases hv with hv | hv
    · exact h.v0 b (by rw [← hv]; exact hb)
    · have := hv b hb; omega
theorem AwT.below {w0 w w' : World} {g : Nat} {v : Value} {l : List (Int × ByteArray)} (h : AwT w0 w g v l) (hb : Below w.heap.size w w') : AwT w0 w' g v l :=
  ⟨h.t.below hb, h.b.trans (hb.mono h.b.size), h.g0, h.v0⟩

set_option maxRecDepth 100000 in
set_option maxHeartbeats 1000000 in
theorem awake_true (w : World) : Calls Try.prog 7 #[] w fun e w' => e = .returned (.bool true) ∧ Below w.heap.size w w' := by
  go_enter Try.func7, Try.ntmps7
  go_wp2_with fail
  have t0 : AwT w (w.alloc (.cells #[.slice none 0 0] 35)) w.heap.size (.slice none 0 0) [] :=
    ⟨⟨Blk.new _ _ _, World.ownsRow_nil _ _ _ _⟩, (Below.refl _ _).alloc (Nat.le_refl _) _, Nat.le_refl _, by simp [Value.ownBlock]⟩
  refine (set_intstring w.heap.size _ [] 3 sX _ t0.t srt_nil (by simp)).mono ?_
  intro e w1 hp; obtain ⟨v1, rfl, t1⟩ := t0.step hp; clear hp t0; rw [aw1.2]; rw [aw1.1] at t1
  have T1 := Lib.hid t1; clear t1
  go_wp2_with fail
  refine (set_intstring w.heap.size _ [(3, sX)] 1 sY _ T1.out.t srt1 (by simp)).mono ?_
  intro e w2 hp; obtain ⟨v2, rfl, t2⟩ := T1.out.step hp; clear hp T1; rw [aw2.2]; rw [aw2.1] at t2
  have T2 := Lib.hid t2; clear t2
  go_wp2_with fail
  refine (set_intstring w.heap.size _ [(1, sY), (3, sX)] 3 sZ _ T2.out.t srt2 (by simp)).mono ?_
  intro e w3 hp; obtain ⟨v3, rfl, t3⟩ := T2.out.step hp; clear hp T2; rw [aw3.2]; rw [aw3.1] at t3
  have T3 := Lib.hid t3; clear t3
  go_wp2_with fail
  refine (get_intstring w.heap.size _ [(1, sY), (3, sZ)] 3 _ T3.out.t srt3 (by simp)).mono ?_
  rintro e w4 ⟨rfl, hb4⟩; have T4 := Lib.hid (T3.out.below hb4); clear hb4 T3; rw [aw4]; simp only [Option.map_some, Option.getD_some, Option.isSome_some]
  go_wp2_with fail
  refine (keys_intstring w.heap.size _ [(1, sY), (3, sZ)] _ T4.out.t (by simp)).mono ?_
  rintro e w5 ⟨vk, rfl, ho5, hb5, hv5⟩; have T5 := Lib.hid (T4.out.below hb5); have O5 := Lib.hid ho5; have V5 := Lib.hid hv5; clear hb5 T4 ho5 hv5
  go_wp2_with fail
  have hA5 : ∀ i (hi : i < [sA, sB, sA].length), ∃ b o, some (⟨w5.heap.size, 0, none⟩ : Addr) = some ⟨b, o, none⟩ ∧ b < (w5.alloc (.cells #[.string sA, .string sB, .string sA] 9)).heap.size ∧
      (w5.alloc (.cells #[.string sA, .string sB, .string sA] 9)).cell? ⟨b, o + i, none⟩ = some (.string [sA, sB, sA][i]) := fun i hi =>
    ⟨w5.heap.size, 0, rfl, by simp, by
      rw [Nat.zero_add, (Blk.new w5 9 #[.string sA, .string sB, .string sA]).cell]
      match i, hi with
      | 0, _ => rfl
      | 1, _ => rfl
      | 2, _ => rfl⟩
  refine (count_string (some ⟨w5.heap.size, 0, none⟩) 3 [sA, sB, sA] _ (by simp) hA5).mono ?_
  rintro e w6 ⟨g6, v6, rfl, t6, hb6, hg6, hv6⟩
  clear hA5
  rw [aw5] at t6
  have hb56 : Below w5.heap.size w5 w6 := ((Below.refl _ _).alloc (Nat.le_refl _) _).trans (hb6.mono (by simp))
  have T6 := Lib.hid (T5.out.below hb56)
  have O6 := Lib.hid ((Frm.of_below hb56 (S := [])).own O5.out (by simp))
  have C6 := Lib.hid t6
  clear hb6 t6 T5 O5 hb56 hg6 hv6
  go_wp2_with fail
  refine (get_stringint g6 _ [(sA, (2 : Int)), (sB, 1)] sA _ C6.out srt4 (by simp)).mono ?_
  rintro e w7 ⟨rfl, hb7⟩
  rw [aw6]; simp only [Option.map_some, Option.getD_some, Option.isSome_some]
  have T7 := Lib.hid (T6.out.below hb7)
  have ho7 := (Frm.of_below hb7 (S := [])).own O6.out (by simp)
  obtain ⟨r, cap, hvk, hc⟩ : ∃ r cap, vk = .slice (some ⟨r, 0, none⟩) 2 cap ∧ w7.cell? ⟨r, 0, none⟩ = some (.int .i64 1) := by
    rcases ho7.2 with ⟨_, h0⟩ | ⟨r, cap, cur, rfl, _⟩
    · simp at h0
    · exact ⟨r, cap, rfl, by rw [ho7.cellAt 0 (by simp)]; rfl⟩
  subst hvk
  clear hb7 ho7 T6 O6 C6 V5
  go_wp2_with (go_at_call 16; refine (len_intstring _ _ _ _ T7.out.t).mono ?_; rintro e w8 ⟨rfl, rfl⟩)
  go_ret
  exact ⟨rfl, T7.out.b⟩

end Go.Proofs.Ytfoaalfkjknklaa
