/- The table's methods, by contract: Get, Has, Len, Set, Del, Pop, Keys, Copy. Conditions: each theorem's own. -/
import Derived.Test.YtfoaalfkjknklaaTabB
namespace Go.Proofs.Ytfoaalfkjknklaa
open Go.RowKit

section
variable {κ ν : Type} {kv : κ → Value} {vv : ν → Value} {T E : TypeId} {w w' : World} {g : Nat} {v : Value} {l : List (κ × ν)}
theorem Tbl.frm {S : List (Option Nat)} (h : Tbl T E kv vv w g v l) (hf : Frm S w w') (hg : some g ∉ S) (hv : ∀ b, v.ownBlock = some b → some b ∉ S) : Tbl T E kv vv w' g v l :=
  ⟨h.blk.frm hf hg, hf.own h.own hv⟩
theorem Tbl.below (h : Tbl T E kv vv w g v l) (hb : Below w.heap.size w w') : Tbl T E kv vv w' g v l := h.frm (S := []) (Frm.of_below hb) (by simp) (by simp)
theorem Tbl.drew (h : Tbl T E kv vv w g v l) : Tbl T E kv vv w.drew g v l := ⟨h.blk, h.own⟩
theorem Tbl.alloc (h : Tbl T E kv vv w g v l) (o : Obj) : Tbl T E kv vv (w.alloc o) g v l := h.frm (S := []) ((Frm.refl _ _).alloc _) (by simp) (by simp)
theorem Tbl.cell (h : Tbl T E kv vv w g v l) : w.cell? ⟨g, 0, none⟩ = some v := by have := h.blk.cell 0; simpa using this
theorem Tbl.ne (h : Tbl T E kv vv w g v l) (hTE : E ≠ T) : v.ownBlock ≠ some g := own_blk_ne h.own h.blk hTE
theorem Tbl.row (h : Tbl T E kv vv w g v l) (hn : 0 < l.length) : ∃ r cap, v = .slice (some ⟨r, 0, none⟩) l.length cap ∧ r < w.heap.size ∧ l.length ≤ cap ∧ cap ≤ 9223372036854775807 ∧
    (∀ i (hi : i < l.length), w.cell? ⟨r, i * 2, none⟩ = some (kv l[i].1)) ∧ (∀ i (hi : i < l.length), w.cell? ⟨r, i * 2 + 1, none⟩ = some (vv l[i].2)) ∧ ∀ o, w.frozen? ⟨r, o, none⟩ = false := by
  have ho := h.own
  rcases ho.2 with ⟨_, h0⟩ | ⟨r, cap, cur, rfl, _, hg, hnc, hcm, hcs, ht⟩
  · omega
  · unfold maxLen at hcm
    refine ⟨r, cap, rfl, (Array.getElem?_eq_some_iff.1 hg).1, hnc, by omega, fun i hi => ?_, fun i hi => ?_, fun o => ho.frozenAt o⟩
    · rw [ho.cellAt _ (by omega), ents_get0, List.getElem?_eq_getElem hi]; rfl
    · rw [ho.cellAt _ (by omega), ents_get1, List.getElem?_eq_getElem hi]; rfl
theorem tget_lt {cmp : κ → κ → Int} {k : κ} {e : κ × ν} (h : tget cmp l k = some e) : ∃ hi : tix cmp l k < l.length, l[tix cmp l k] = e := by
  have h1 := (tget_eq h).1
  obtain ⟨hi, he⟩ := List.getElem?_eq_some_iff.1 h1
  exact ⟨hi, he⟩
/-- What a table's call that may write leaves. -/
structure TblPost (T E : TypeId) (kv : κ → Value) (vv : ν → Value) (w : World) (g : Nat) (v : Value) (r : Value) (l' : List (κ × ν)) (e : Ending) (w' : World) : Prop where
  ex : ∃ v', e = .returned r ∧ Tbl T E kv vv w' g v' l' ∧ Frm [some g, v.ownBlock] w w' ∧ (v'.ownBlock = v.ownBlock ∨ ∀ b, v'.ownBlock = some b → w.heap.size ≤ b)
end

theorem findY_intstring (g : Nat) (v : Value) (l : List (Int × ByteArray)) (k : Int) (w : World) (hT : Tblintstring w g v l) (hs : Srt cmpI l) (hn : l.length ≤ 1000000) {e0} (hq : tget cmpI l k = some e0) :
    Calls Try.prog 27 #[.pointer (some ⟨g, 0, none⟩), .int .i64 k] w fun e w' => e = .returned (.tuple #[.int .i64 (tix cmpI l k), .bool true]) ∧ Below w.heap.size w w' :=
  (find_intstring g v l k w hT hs hn).mono fun e w' h => by unfold FindPostintstring at h; rwa [hq] at h
theorem findN_intstring (g : Nat) (v : Value) (l : List (Int × ByteArray)) (k : Int) (w : World) (hT : Tblintstring w g v l) (hs : Srt cmpI l) (hn : l.length ≤ 1000000) (hq : tget cmpI l k = none) :
    Calls Try.prog 27 #[.pointer (some ⟨g, 0, none⟩), .int .i64 k] w fun e w' => e = .returned (.tuple #[.int .i64 (tix cmpI l k), .bool false]) ∧ Below w.heap.size w w' :=
  (find_intstring g v l k w hT hs hn).mono fun e w' h => by unfold FindPostintstring at h; rwa [hq] at h

set_option maxHeartbeats 400000 in
theorem get_intstring (g : Nat) (v : Value) (l : List (Int × ByteArray)) (k : Int) (w : World) (hT : Tblintstring w g v l) (hs : Srt cmpI l) (hn : l.length ≤ 1000000) :
    Calls Try.prog 21 #[.pointer (some ⟨g, 0, none⟩), .int .i64 k] w fun e w' => e = .returned (.tuple #[.string (((tget cmpI l k).map (·.2)).getD ⟨#[]⟩), .bool (tget cmpI l k).isSome]) ∧ Below w.heap.size w w' := by
  cases hq : tget cmpI l k with
  | none =>
    have HC := Lib.hid (findN_intstring g v l k w hT hs hn hq)
    clear hT hs hq
    go_enter Try.func21, Try.ntmps21
    go_wp2_with (go_at_call 27; refine HC.out.mono ?_; rintro e w1 ⟨rfl, hb1⟩)
    go_ret2
    exact ⟨rfl, hb1⟩
  | some e0 =>
    have HC := Lib.hid (findY_intstring g v l k w hT hs hn hq)
    obtain ⟨hi, he⟩ := tget_lt hq
    obtain ⟨r, cap, rfl, hrl, hnc, hcm, h0, h1, hfz⟩ := hT.row (by omega)
    have hgl := hT.blk.lt
    have HT := Lib.hid hT.cell
    have h1' := h1 _ hi
    rw [he] at h1'
    have H1 := Lib.hid h1'
    clear hT hs hq h0 h1 hfz h1' he
    generalize tix cmpI l k = i at *
    go_enter Try.func21, Try.ntmps21
    go_wp2_with (go_at_call 27; refine HC.out.mono ?_; rintro e w1 ⟨rfl, hb1⟩; have c0 := (hb1.cell (p := ⟨g, 0, none⟩) hgl).trans HT.out; have c1 := (hb1.cell (p := ⟨r, i * 2 + 1, none⟩) hrl).trans H1.out)
    go_ret2
    exact ⟨rfl, hb1⟩
set_option maxHeartbeats 400000 in
theorem has_intstring (g : Nat) (v : Value) (l : List (Int × ByteArray)) (k : Int) (w : World) (hT : Tblintstring w g v l) (hs : Srt cmpI l) (hn : l.length ≤ 1000000) :
    Calls Try.prog 32 #[.pointer (some ⟨g, 0, none⟩), .int .i64 k] w fun e w' => e = .returned (.bool (tget cmpI l k).isSome) ∧ Below w.heap.size w w' := by
  have HC := Lib.hid (find_intstring g v l k w hT hs hn)
  clear hT hs
  go_enter Try.func32, Try.ntmps32
  go_wp2_with (go_at_call 27; refine HC.out.mono ?_; rintro e w1 ⟨rfl, hb1⟩)
  go_ret
  exact ⟨rfl, hb1⟩
theorem len_intstring (g : Nat) (v : Value) (l : List (Int × ByteArray)) (w : World) (hT : Tblintstring w g v l) :
    Calls Try.prog 16 #[.pointer (some ⟨g, 0, none⟩)] w fun e w' => e = .returned (.int .i64 l.length) ∧ w = w' := by
  have hc := hT.cell
  rcases hT.own.2 with ⟨rfl, h0⟩ | ⟨r, cap, cur, rfl, _, hg, hnc, hcm, hcs, ht⟩
  · rw [h0]
    clear hT h0
    go_enter Try.func16, Try.ntmps16
    go_wp2
    go_ret
    exact ⟨rfl, rfl⟩
  · clear hT hg hcs ht
    go_enter Try.func16, Try.ntmps16
    go_wp2
    go_ret
    exact ⟨rfl, rfl⟩
theorem findY_stringint (g : Nat) (v : Value) (l : List (ByteArray × Int)) (k : ByteArray) (w : World) (hT : Tblstringint w g v l) (hs : Srt cmpS l) (hn : l.length ≤ 1000000) {e0} (hq : tget cmpS l k = some e0) :
    Calls Try.prog 37 #[.pointer (some ⟨g, 0, none⟩), .string k] w fun e w' => e = .returned (.tuple #[.int .i64 (tix cmpS l k), .bool true]) ∧ Below w.heap.size w w' :=
  (find_stringint g v l k w hT hs hn).mono fun e w' h => by unfold FindPoststringint at h; rwa [hq] at h
theorem findN_stringint (g : Nat) (v : Value) (l : List (ByteArray × Int)) (k : ByteArray) (w : World) (hT : Tblstringint w g v l) (hs : Srt cmpS l) (hn : l.length ≤ 1000000) (hq : tget cmpS l k = none) :
    Calls Try.prog 37 #[.pointer (some ⟨g, 0, none⟩), .string k] w fun e w' => e = .returned (.tuple #[.int .i64 (tix cmpS l k), .bool false]) ∧ Below w.heap.size w w' :=
  (find_stringint g v l k w hT hs hn).mono fun e w' h => by unfold FindPoststringint at h; rwa [hq] at h

set_option maxHeartbeats 400000 in
theorem get_stringint (g : Nat) (v : Value) (l : List (ByteArray × Int)) (k : ByteArray) (w : World) (hT : Tblstringint w g v l) (hs : Srt cmpS l) (hn : l.length ≤ 1000000) :
    Calls Try.prog 24 #[.pointer (some ⟨g, 0, none⟩), .string k] w fun e w' => e = .returned (.tuple #[.int .i64 (((tget cmpS l k).map (·.2)).getD 0), .bool (tget cmpS l k).isSome]) ∧ Below w.heap.size w w' := by
  cases hq : tget cmpS l k with
  | none =>
    have HC := Lib.hid (findN_stringint g v l k w hT hs hn hq)
    clear hT hs hq
    go_enter Try.func24, Try.ntmps24
    go_wp2_with (go_at_call 37; refine HC.out.mono ?_; rintro e w1 ⟨rfl, hb1⟩)
    go_ret2
    exact ⟨rfl, hb1⟩
  | some e0 =>
    have HC := Lib.hid (findY_stringint g v l k w hT hs hn hq)
    obtain ⟨hi, he⟩ := tget_lt hq
    obtain ⟨r, cap, rfl, hrl, hnc, hcm, h0, h1, hfz⟩ := hT.row (by omega)
    have hgl := hT.blk.lt
    have HT := Lib.hid hT.cell
    have h1' := h1 _ hi
    rw [he] at h1'
    have H1 := Lib.hid h1'
    clear hT hs hq h0 h1 hfz h1' he
    generalize tix cmpS l k = i at *
    go_enter Try.func24, Try.ntmps24
    go_wp2_with (go_at_call 37; refine HC.out.mono ?_; rintro e w1 ⟨rfl, hb1⟩; have c0 := (hb1.cell (p := ⟨g, 0, none⟩) hgl).trans HT.out; have c1 := (hb1.cell (p := ⟨r, i * 2 + 1, none⟩) hrl).trans H1.out)
    go_ret2
    exact ⟨rfl, hb1⟩
theorem findY_intint (g : Nat) (v : Value) (l : List (Int × Int)) (k : Int) (w : World) (hT : Tblintint w g v l) (hs : Srt cmpI l) (hn : l.length ≤ 1000000) {e0} (hq : tget cmpI l k = some e0) :
    Calls Try.prog 26 #[.pointer (some ⟨g, 0, none⟩), .int .i64 k] w fun e w' => e = .returned (.tuple #[.int .i64 (tix cmpI l k), .bool true]) ∧ Below w.heap.size w w' :=
  (find_intint g v l k w hT hs hn).mono fun e w' h => by unfold FindPostintint at h; rwa [hq] at h
theorem findN_intint (g : Nat) (v : Value) (l : List (Int × Int)) (k : Int) (w : World) (hT : Tblintint w g v l) (hs : Srt cmpI l) (hn : l.length ≤ 1000000) (hq : tget cmpI l k = none) :
    Calls Try.prog 26 #[.pointer (some ⟨g, 0, none⟩), .int .i64 k] w fun e w' => e = .returned (.tuple #[.int .i64 (tix cmpI l k), .bool false]) ∧ Below w.heap.size w w' :=
  (find_intint g v l k w hT hs hn).mono fun e w' h => by unfold FindPostintint at h; rwa [hq] at h

set_option maxHeartbeats 400000 in
theorem get_intint (g : Nat) (v : Value) (l : List (Int × Int)) (k : Int) (w : World) (hT : Tblintint w g v l) (hs : Srt cmpI l) (hn : l.length ≤ 1000000) :
    Calls Try.prog 9 #[.pointer (some ⟨g, 0, none⟩), .int .i64 k] w fun e w' => e = .returned (.tuple #[.int .i64 (((tget cmpI l k).map (·.2)).getD 0), .bool (tget cmpI l k).isSome]) ∧ Below w.heap.size w w' := by
  cases hq : tget cmpI l k with
  | none =>
    have HC := Lib.hid (findN_intint g v l k w hT hs hn hq)
    clear hT hs hq
    go_enter Try.func9, Try.ntmps9
    go_wp2_with (go_at_call 26; refine HC.out.mono ?_; rintro e w1 ⟨rfl, hb1⟩)
    go_ret2
    exact ⟨rfl, hb1⟩
  | some e0 =>
    have HC := Lib.hid (findY_intint g v l k w hT hs hn hq)
    obtain ⟨hi, he⟩ := tget_lt hq
    obtain ⟨r, cap, rfl, hrl, hnc, hcm, h0, h1, hfz⟩ := hT.row (by omega)
    have hgl := hT.blk.lt
    have HT := Lib.hid hT.cell
    have h1' := h1 _ hi
    rw [he] at h1'
    have H1 := Lib.hid h1'
    clear hT hs hq h0 h1 hfz h1' he
    generalize tix cmpI l k = i at *
    go_enter Try.func9, Try.ntmps9
    go_wp2_with (go_at_call 26; refine HC.out.mono ?_; rintro e w1 ⟨rfl, hb1⟩; have c0 := (hb1.cell (p := ⟨g, 0, none⟩) hgl).trans HT.out; have c1 := (hb1.cell (p := ⟨r, i * 2 + 1, none⟩) hrl).trans H1.out)
    go_ret2
    exact ⟨rfl, hb1⟩

end Go.Proofs.Ytfoaalfkjknklaa
