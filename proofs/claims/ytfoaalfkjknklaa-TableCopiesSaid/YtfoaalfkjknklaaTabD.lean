/- The table's methods that write, by contract: Set, Del, Pop; and Keys, Copy. Conditions: each theorem's own. -/
import Derived.Test.YtfoaalfkjknklaaTabC
namespace Go.Proofs.Ytfoaalfkjknklaa
open Go.RowKit

set_option maxHeartbeats 400000 in
theorem set_intstring (g : Nat) (v : Value) (l : List (Int × ByteArray)) (k : Int) (x : ByteArray) (w : World) (hT : Tblintstring w g v l) (hs : Srt cmpI l) (hn : l.length ≤ 1000000) :
    Calls Try.prog 12 #[.pointer (some ⟨g, 0, none⟩), .int .i64 k, .string x] w (TblPost 35 68 (fun k => .int .i64 k) (fun x => .string x) w g v (.bool (tget cmpI l k).isNone) (tset cmpI l k x)) := by
  cases hq : tget cmpI l k with
  | none =>
    have HC := Lib.hid (findN_intstring g v l k w hT hs hn hq)
    have hone : ∀ u ∈ ents (fun k => .int .i64 k) (fun x => .string x) l, u.oneCell' = true := ents_one (fun _ => rfl) (fun _ => rfl) l
    have hne := hT.ne (by decide)
    have hgl := hT.blk.lt
    have hI : ∀ w1, Below w.heap.size w w1 → Calls Try.prog 28 #[v, .int .i64 (tix cmpI l k), .slice (some ⟨w1.heap.size, 0, none⟩) 1 1] (w1.alloc (.cells #[.int .i64 k, .string x] 68))
        (InsPost (w1.alloc (.cells #[.int .i64 k, .string x] 68)) 68 2 v l.length (tix cmpI l k) (ents (fun k => .int .i64 k) (fun x => .string x) l) [.int .i64 k, .string x]) := fun w1 hb1 => by
      have hT1 := (hT.below hb1).alloc (.cells #[.int .i64 k, .string x] 68)
      exact ins_intstring v l.length (tix cmpI l k) _ [.int .i64 k, .string x] w1.heap.size _ hn (tix_le l k) hT1.own (Blk.new _ _ _) rfl
        (fun e => by have := (hT.below hb1).own.lt _ e; omega) hone (by simp [Value.oneCell'])
    have hcell : ∀ w1, Below w.heap.size w w1 → w1.cell? ⟨g, 0, none⟩ = some v := fun w1 hb1 => (hT.below hb1).cell
    have hcell2 : ∀ w1 w2, Below w.heap.size w w1 → Frm [v.ownBlock] (w1.alloc (.cells #[.int .i64 k, .string x] 68)) w2 → w2.cell? ⟨g, 0, none⟩ = some v ∧ w2.frozen? ⟨g, 0, none⟩ = false := fun w1 w2 hb1 hf => by
      have hb := (((hT.below hb1).alloc (.cells #[.int .i64 k, .string x] 68)).blk).frm hf (by simpa using fun e => hne e.symm)
      exact ⟨by have := hb.cell 0; simpa using this, hb.frozen 0⟩
    have hfin : ∀ w1 w2 v', Below w.heap.size w w1 → w2.ownsRow 0 68 2 v' (l.length + 1) (insAt (ents (fun k => .int .i64 k) (fun x => .string x) l) (tix cmpI l k * 2) [.int .i64 k, .string x]) → Frm [v.ownBlock] (w1.alloc (.cells #[.int .i64 k, .string x] 68)) w2 →
        (v'.ownBlock = v.ownBlock ∨ ∀ b, v'.ownBlock = some b → (w1.alloc (.cells #[.int .i64 k, .string x] 68)).heap.size ≤ b) →
        TblPost 35 68 (fun k => .int .i64 k) (fun x => .string x) w g v (.bool true) (tset cmpI l k x) (.returned (.bool true)) (w2.setCell ⟨g, 0, none⟩ v') := fun w1 w2 v' hb1 ho hf hv' => by
      have hw : tset cmpI l k x = l.take (tix cmpI l k) ++ (k, x) :: l.drop (tix cmpI l k) := by unfold tset; rw [hq]
      have hb := (((hT.below hb1).alloc (.cells #[.int .i64 k, .string x] 68)).blk).frm hf (by simpa using fun e => hne e.symm)
      have hll : (tset cmpI l k x).length = l.length + 1 := by rw [hw]; have := tix_le (cmp := cmpI) l k; simp; omega
      have hvg : v'.ownBlock ≠ some g := own_blk_ne ho hb (by decide)
      have hsz1 := hb1.size
      have hown : ∀ b, v'.ownBlock = some b → some b ∉ [some g] := fun b hb1 => by simp; rintro rfl; exact hvg hb1
      refine ⟨v', rfl, ⟨by have := hb.set_ 0 v'; simpa using this, ?_⟩, ?_, ?_⟩
      · rw [hll, hw, ← insAt_ents l _ (k, x)]
        exact ((Frm.refl [some g] w2).setCell (p := ⟨g, 0, none⟩) (.inl (by simp)) v').own ho hown
      · refine (((Frm.of_below hb1).alloc _).trans' hf fun b hb => ?_).setCell (.inl (by simp)) _
        simp at hb; exact .inl (by simp [← hb])
      · rcases hv' with h | h
        · exact .inl h
        · exact .inr fun b hb => by have := h b hb; simp at this; omega
    have HI := Lib.hid hI; have H1 := Lib.hid hcell; have H2 := Lib.hid hcell2; have HF := Lib.hid hfin
    clear hT hs hq hI hcell hcell2 hfin hone hne
    generalize tix cmpI l k = i at *
    go_enter Try.func12, Try.ntmps12
    go_wp2_with (first
      | (go_at_call 27; refine HC.out.mono ?_; rintro e w1 ⟨rfl, hb1⟩; have c0 := H1.out w1 hb1)
      | (go_at_call 28; refine (HI.out _ hb1).mono ?_; rintro e w2 ⟨v', rfl, ho, hf, hv'⟩; obtain ⟨A, c, rfl⟩ := own_slice ho; obtain ⟨c2, c3⟩ := H2.out _ _ hb1 hf))
    go_ret
    exact HF.out _ _ _ hb1 ho hf hv'
  | some e0 =>
    have HC := Lib.hid (findY_intstring g v l k w hT hs hn hq)
    obtain ⟨hi, he⟩ := tget_lt hq
    obtain ⟨r, cap, rfl, hrl, hnc, hcm, h0, h1, hfz⟩ := hT.row (by omega)
    have hgl := hT.blk.lt
    have hne := hT.ne (by decide)
    have hrg : r ≠ g := fun e => hne (by simp [Value.ownBlock, e])
    have hcell : ∀ w1, Below w.heap.size w w1 → w1.cell? ⟨g, 0, none⟩ = some (.slice (some ⟨r, 0, none⟩) l.length cap) ∧ w1.cell? ⟨r, tix cmpI l k * 2 + 1, none⟩ = some (.string l[tix cmpI l k].2) ∧ w1.frozen? ⟨r, tix cmpI l k * 2 + 1, none⟩ = false := fun w1 hb1 =>
      ⟨(hT.below hb1).cell, (hb1.cell (p := ⟨r, tix cmpI l k * 2 + 1, none⟩) hrl).trans (h1 _ hi), (hT.below hb1).own.frozenAt _⟩
    have hfin : ∀ w1, Below w.heap.size w w1 → TblPost 35 68 (fun k => .int .i64 k) (fun x => .string x) w g (.slice (some ⟨r, 0, none⟩) l.length cap) (.bool false) (tset cmpI l k x) (.returned (.bool false)) (w1.setCell ⟨r, tix cmpI l k * 2 + 1, none⟩ (.string x)) := fun w1 hb1 => by
      have hT1 := hT.below hb1
      have hst := hT1.own.stored (tix cmpI l k * 2 + 1) (.string x)
      have hw : tset cmpI l k x = l.set (tix cmpI l k) (l[tix cmpI l k].1, x) := by unfold tset; rw [hq, he]
      refine ⟨_, rfl, ⟨hT1.blk.far (p := ⟨r, _, none⟩) (by simpa using fun e => hrg e.symm) _, ?_⟩, ?_, .inl rfl⟩
      · rw [hw, List.length_set]
        have := ents_set (kv := fun k => .int .i64 k) (vv := fun x => .string x) l _ hi (l[tix cmpI l k].1, x)
        rw [← this]
        exact hst.1
      · exact (Frm.of_below hb1).grown hst.2 fun b hb => .inl (by simp [Value.ownBlock, hb])
    have H1 := Lib.hid hcell; have HF := Lib.hid hfin
    clear hT hs hq hcell hfin he h0 h1 hfz hne
    generalize tix cmpI l k = i at *
    generalize (.string l[i].2 : Value) = old at *
    go_enter Try.func12, Try.ntmps12
    go_wp2_with (go_at_call 27; refine HC.out.mono ?_; rintro e w1 ⟨rfl, hb1⟩; obtain ⟨c0, c1, c2⟩ := H1.out w1 hb1)
    go_ret
    exact HF.out _ hb1
set_option maxHeartbeats 400000 in
theorem set_stringint (g : Nat) (v : Value) (l : List (ByteArray × Int)) (k : ByteArray) (x : Int) (w : World) (hT : Tblstringint w g v l) (hs : Srt cmpS l) (hn : l.length ≤ 1000000) :
    Calls Try.prog 36 #[.pointer (some ⟨g, 0, none⟩), .string k, .int .i64 x] w (TblPost 77 80 (fun k => .string k) (fun x => .int .i64 x) w g v (.bool (tget cmpS l k).isNone) (tset cmpS l k x)) := by
  cases hq : tget cmpS l k with
  | none =>
    have HC := Lib.hid (findN_stringint g v l k w hT hs hn hq)
    have hone : ∀ u ∈ ents (fun k => .string k) (fun x => .int .i64 x) l, u.oneCell' = true := ents_one (fun _ => rfl) (fun _ => rfl) l
    have hne := hT.ne (by decide)
    have hgl := hT.blk.lt
    have hI : ∀ w1, Below w.heap.size w w1 → Calls Try.prog 46 #[v, .int .i64 (tix cmpS l k), .slice (some ⟨w1.heap.size, 0, none⟩) 1 1] (w1.alloc (.cells #[.string k, .int .i64 x] 80))
        (InsPost (w1.alloc (.cells #[.string k, .int .i64 x] 80)) 80 2 v l.length (tix cmpS l k) (ents (fun k => .string k) (fun x => .int .i64 x) l) [.string k, .int .i64 x]) := fun w1 hb1 => by
      have hT1 := (hT.below hb1).alloc (.cells #[.string k, .int .i64 x] 80)
      exact ins_stringint v l.length (tix cmpS l k) _ [.string k, .int .i64 x] w1.heap.size _ hn (tix_le l k) hT1.own (Blk.new _ _ _) rfl
        (fun e => by have := (hT.below hb1).own.lt _ e; omega) hone (by simp [Value.oneCell'])
    have hcell : ∀ w1, Below w.heap.size w w1 → w1.cell? ⟨g, 0, none⟩ = some v := fun w1 hb1 => (hT.below hb1).cell
    have hcell2 : ∀ w1 w2, Below w.heap.size w w1 → Frm [v.ownBlock] (w1.alloc (.cells #[.string k, .int .i64 x] 80)) w2 → w2.cell? ⟨g, 0, none⟩ = some v ∧ w2.frozen? ⟨g, 0, none⟩ = false := fun w1 w2 hb1 hf => by
      have hb := (((hT.below hb1).alloc (.cells #[.string k, .int .i64 x] 80)).blk).frm hf (by simpa using fun e => hne e.symm)
      exact ⟨by have := hb.cell 0; simpa using this, hb.frozen 0⟩
    have hfin : ∀ w1 w2 v', Below w.heap.size w w1 → w2.ownsRow 0 80 2 v' (l.length + 1) (insAt (ents (fun k => .string k) (fun x => .int .i64 x) l) (tix cmpS l k * 2) [.string k, .int .i64 x]) → Frm [v.ownBlock] (w1.alloc (.cells #[.string k, .int .i64 x] 80)) w2 →
        (v'.ownBlock = v.ownBlock ∨ ∀ b, v'.ownBlock = some b → (w1.alloc (.cells #[.string k, .int .i64 x] 80)).heap.size ≤ b) →
        TblPost 77 80 (fun k => .string k) (fun x => .int .i64 x) w g v (.bool true) (tset cmpS l k x) (.returned (.bool true)) (w2.setCell ⟨g, 0, none⟩ v') := fun w1 w2 v' hb1 ho hf hv' => by
      have hw : tset cmpS l k x = l.take (tix cmpS l k) ++ (k, x) :: l.drop (tix cmpS l k) := by unfold tset; rw [hq]
      have hb := (((hT.below hb1).alloc (.cells #[.string k, .int .i64 x] 80)).blk).frm hf (by simpa using fun e => hne e.symm)
      have hll : (tset cmpS l k x).length = l.length + 1 := by rw [hw]; have := tix_le (cmp := cmpS) l k; simp; omega
      have hvg : v'.ownBlock ≠ some g := own_blk_ne ho hb (by decide)
      have hsz1 := hb1.size
      have hown : ∀ b, v'.ownBlock = some b → some b ∉ [some g] := fun b hb1 => by simp; rintro rfl; exact hvg hb1
      refine ⟨v', rfl, ⟨by have := hb.set_ 0 v'; simpa using this, ?_⟩, ?_, ?_⟩
      · rw [hll, hw, ← insAt_ents l _ (k, x)]
        exact ((Frm.refl [some g] w2).setCell (p := ⟨g, 0, none⟩) (.inl (by simp)) v').own ho hown
      · refine (((Frm.of_below hb1).alloc _).trans' hf fun b hb => ?_).setCell (.inl (by simp)) _
        simp at hb; exact .inl (by simp [← hb])
      · rcases hv' with h | h
        · exact .inl h
        · exact .inr fun b hb => by have := h b hb; simp at this; omega
    have HI := Lib.hid hI; have H1 := Lib.hid hcell; have H2 := Lib.hid hcell2; have HF := Lib.hid hfin
    clear hT hs hq hI hcell hcell2 hfin hone hne
    generalize tix cmpS l k = i at *
    go_enter Try.func36, Try.ntmps36
    go_wp2_with (first
      | (go_at_call 37; refine HC.out.mono ?_; rintro e w1 ⟨rfl, hb1⟩; have c0 := H1.out w1 hb1)
      | (go_at_call 46; refine (HI.out _ hb1).mono ?_; rintro e w2 ⟨v', rfl, ho, hf, hv'⟩; obtain ⟨A, c, rfl⟩ := own_slice ho; obtain ⟨c2, c3⟩ := H2.out _ _ hb1 hf))
    go_ret
    exact HF.out _ _ _ hb1 ho hf hv'
  | some e0 =>
    have HC := Lib.hid (findY_stringint g v l k w hT hs hn hq)
    obtain ⟨hi, he⟩ := tget_lt hq
    obtain ⟨r, cap, rfl, hrl, hnc, hcm, h0, h1, hfz⟩ := hT.row (by omega)
    have hgl := hT.blk.lt
    have hne := hT.ne (by decide)
    have hrg : r ≠ g := fun e => hne (by simp [Value.ownBlock, e])
    have hcell : ∀ w1, Below w.heap.size w w1 → w1.cell? ⟨g, 0, none⟩ = some (.slice (some ⟨r, 0, none⟩) l.length cap) ∧ w1.cell? ⟨r, tix cmpS l k * 2 + 1, none⟩ = some (.int .i64 l[tix cmpS l k].2) ∧ w1.frozen? ⟨r, tix cmpS l k * 2 + 1, none⟩ = false := fun w1 hb1 =>
      ⟨(hT.below hb1).cell, (hb1.cell (p := ⟨r, tix cmpS l k * 2 + 1, none⟩) hrl).trans (h1 _ hi), (hT.below hb1).own.frozenAt _⟩
    have hfin : ∀ w1, Below w.heap.size w w1 → TblPost 77 80 (fun k => .string k) (fun x => .int .i64 x) w g (.slice (some ⟨r, 0, none⟩) l.length cap) (.bool false) (tset cmpS l k x) (.returned (.bool false)) (w1.setCell ⟨r, tix cmpS l k * 2 + 1, none⟩ (.int .i64 x)) := fun w1 hb1 => by
      have hT1 := hT.below hb1
      have hst := hT1.own.stored (tix cmpS l k * 2 + 1) (.int .i64 x)
      have hw : tset cmpS l k x = l.set (tix cmpS l k) (l[tix cmpS l k].1, x) := by unfold tset; rw [hq, he]
      refine ⟨_, rfl, ⟨hT1.blk.far (p := ⟨r, _, none⟩) (by simpa using fun e => hrg e.symm) _, ?_⟩, ?_, .inl rfl⟩
      · rw [hw, List.length_set]
        have := ents_set (kv := fun k => .string k) (vv := fun x => .int .i64 x) l _ hi (l[tix cmpS l k].1, x)
        rw [← this]
        exact hst.1
      · exact (Frm.of_below hb1).grown hst.2 fun b hb => .inl (by simp [Value.ownBlock, hb])
    have H1 := Lib.hid hcell; have HF := Lib.hid hfin
    clear hT hs hq hcell hfin he h0 h1 hfz hne
    generalize tix cmpS l k = i at *
    generalize (.int .i64 l[i].2 : Value) = old at *
    go_enter Try.func36, Try.ntmps36
    go_wp2_with (go_at_call 37; refine HC.out.mono ?_; rintro e w1 ⟨rfl, hb1⟩; obtain ⟨c0, c1, c2⟩ := H1.out w1 hb1)
    go_ret
    exact HF.out _ hb1
set_option maxHeartbeats 400000 in
theorem set_intint (g : Nat) (v : Value) (l : List (Int × Int)) (k : Int) (x : Int) (w : World) (hT : Tblintint w g v l) (hs : Srt cmpI l) (hn : l.length ≤ 1000000) :
    Calls Try.prog 25 #[.pointer (some ⟨g, 0, none⟩), .int .i64 k, .int .i64 x] w (TblPost 63 66 (fun k => .int .i64 k) (fun x => .int .i64 x) w g v (.bool (tget cmpI l k).isNone) (tset cmpI l k x)) := by
  cases hq : tget cmpI l k with
  | none =>
    have HC := Lib.hid (findN_intint g v l k w hT hs hn hq)
    have hone : ∀ u ∈ ents (fun k => .int .i64 k) (fun x => .int .i64 x) l, u.oneCell' = true := ents_one (fun _ => rfl) (fun _ => rfl) l
    have hne := hT.ne (by decide)
    have hgl := hT.blk.lt
    have hI : ∀ w1, Below w.heap.size w w1 → Calls Try.prog 38 #[v, .int .i64 (tix cmpI l k), .slice (some ⟨w1.heap.size, 0, none⟩) 1 1] (w1.alloc (.cells #[.int .i64 k, .int .i64 x] 66))
        (InsPost (w1.alloc (.cells #[.int .i64 k, .int .i64 x] 66)) 66 2 v l.length (tix cmpI l k) (ents (fun k => .int .i64 k) (fun x => .int .i64 x) l) [.int .i64 k, .int .i64 x]) := fun w1 hb1 => by
      have hT1 := (hT.below hb1).alloc (.cells #[.int .i64 k, .int .i64 x] 66)
      exact ins_intint v l.length (tix cmpI l k) _ [.int .i64 k, .int .i64 x] w1.heap.size _ hn (tix_le l k) hT1.own (Blk.new _ _ _) rfl
        (fun e => by have := (hT.below hb1).own.lt _ e; omega) hone (by simp [Value.oneCell'])
    have hcell : ∀ w1, Below w.heap.size w w1 → w1.cell? ⟨g, 0, none⟩ = some v := fun w1 hb1 => (hT.below hb1).cell
    have hcell2 : ∀ w1 w2, Below w.heap.size w w1 → Frm [v.ownBlock] (w1.alloc (.cells #[.int .i64 k, .int .i64 x] 66)) w2 → w2.cell? ⟨g, 0, none⟩ = some v ∧ w2.frozen? ⟨g, 0, none⟩ = false := fun w1 w2 hb1 hf => by
      have hb := (((hT.below hb1).alloc (.cells #[.int .i64 k, .int .i64 x] 66)).blk).frm hf (by simpa using fun e => hne e.symm)
      exact ⟨by have := hb.cell 0; simpa using this, hb.frozen 0⟩
    have hfin : ∀ w1 w2 v', Below w.heap.size w w1 → w2.ownsRow 0 66 2 v' (l.length + 1) (insAt (ents (fun k => .int .i64 k) (fun x => .int .i64 x) l) (tix cmpI l k * 2) [.int .i64 k, .int .i64 x]) → Frm [v.ownBlock] (w1.alloc (.cells #[.int .i64 k, .int .i64 x] 66)) w2 →
        (v'.ownBlock = v.ownBlock ∨ ∀ b, v'.ownBlock = some b → (w1.alloc (.cells #[.int .i64 k, .int .i64 x] 66)).heap.size ≤ b) →
        TblPost 63 66 (fun k => .int .i64 k) (fun x => .int .i64 x) w g v (.bool true) (tset cmpI l k x) (.returned (.bool true)) (w2.setCell ⟨g, 0, none⟩ v') := fun w1 w2 v' hb1 ho hf hv' => by
      have hw : tset cmpI l k x = l.take (tix cmpI l k) ++ (k, x) :: l.drop (tix cmpI l k) := by unfold tset; rw [hq]
      have hb := (((hT.below hb1).alloc (.cells #[.int .i64 k, .int .i64 x] 66)).blk).frm hf (by simpa using fun e => hne e.symm)
      have hll : (tset cmpI l k x).length = l.length + 1 := by rw [hw]; have := tix_le (cmp := cmpI) l k; simp; omega
      have hvg : v'.ownBlock ≠ some g := own_blk_ne ho hb (by decide)
      have hsz1 := hb1.size
      have hown : ∀ b, v'.ownBlock = some b → some b ∉ [some g] := fun b hb1 => by simp; rintro rfl; exact hvg hb1
      refine ⟨v', rfl, ⟨by have := hb.set_ 0 v'; simpa using this, ?_⟩, ?_, ?_⟩
      · rw [hll, hw, ← insAt_ents l _ (k, x)]
        exact ((Frm.refl [some g] w2).setCell (p := ⟨g, 0, none⟩) (.inl (by simp)) v').own ho hown
      · refine (((Frm.of_below hb1).alloc _).trans' hf fun b hb => ?_).setCell (.inl (by simp)) _
        simp at hb; exact .inl (by simp [← hb])
      · rcases hv' with h | h
        · exact .inl h
        · exact .inr fun b hb => by have := h b hb; simp at this; omega
    have HI := Lib.hid hI; have H1 := Lib.hid hcell; have H2 := Lib.hid hcell2; have HF := Lib.hid hfin
    clear hT hs hq hI hcell hcell2 hfin hone hne
    generalize tix cmpI l k = i at *
    go_enter Try.func25, Try.ntmps25
    go_wp2_with (first
      | (go_at_call 26; refine HC.out.mono ?_; rintro e w1 ⟨rfl, hb1⟩; have c0 := H1.out w1 hb1)
      | (go_at_call 38; refine (HI.out _ hb1).mono ?_; rintro e w2 ⟨v', rfl, ho, hf, hv'⟩; obtain ⟨A, c, rfl⟩ := own_slice ho; obtain ⟨c2, c3⟩ := H2.out _ _ hb1 hf))
    go_ret
    exact HF.out _ _ _ hb1 ho hf hv'
  | some e0 =>
    have HC := Lib.hid (findY_intint g v l k w hT hs hn hq)
    obtain ⟨hi, he⟩ := tget_lt hq
    obtain ⟨r, cap, rfl, hrl, hnc, hcm, h0, h1, hfz⟩ := hT.row (by omega)
    have hgl := hT.blk.lt
    have hne := hT.ne (by decide)
    have hrg : r ≠ g := fun e => hne (by simp [Value.ownBlock, e])
    have hcell : ∀ w1, Below w.heap.size w w1 → w1.cell? ⟨g, 0, none⟩ = some (.slice (some ⟨r, 0, none⟩) l.length cap) ∧ w1.cell? ⟨r, tix cmpI l k * 2 + 1, none⟩ = some (.int .i64 l[tix cmpI l k].2) ∧ w1.frozen? ⟨r, tix cmpI l k * 2 + 1, none⟩ = false := fun w1 hb1 =>
      ⟨(hT.below hb1).cell, (hb1.cell (p := ⟨r, tix cmpI l k * 2 + 1, none⟩) hrl).trans (h1 _ hi), (hT.below hb1).own.frozenAt _⟩
    have hfin : ∀ w1, Below w.heap.size w w1 → TblPost 63 66 (fun k => .int .i64 k) (fun x => .int .i64 x) w g (.slice (some ⟨r, 0, none⟩) l.length cap) (.bool false) (tset cmpI l k x) (.returned (.bool false)) (w1.setCell ⟨r, tix cmpI l k * 2 + 1, none⟩ (.int .i64 x)) := fun w1 hb1 => by
      have hT1 := hT.below hb1
      have hst := hT1.own.stored (tix cmpI l k * 2 + 1) (.int .i64 x)
      have hw : tset cmpI l k x = l.set (tix cmpI l k) (l[tix cmpI l k].1, x) := by unfold tset; rw [hq, he]
      refine ⟨_, rfl, ⟨hT1.blk.far (p := ⟨r, _, none⟩) (by simpa using fun e => hrg e.symm) _, ?_⟩, ?_, .inl rfl⟩
      · rw [hw, List.length_set]
        have := ents_set (kv := fun k => .int .i64 k) (vv := fun x => .int .i64 x) l _ hi (l[tix cmpI l k].1, x)
        rw [← this]
        exact hst.1
      · exact (Frm.of_below hb1).grown hst.2 fun b hb => .inl (by simp [Value.ownBlock, hb])
    have H1 := Lib.hid hcell; have HF := Lib.hid hfin
    clear hT hs hq hcell hfin he h0 h1 hfz hne
    generalize tix cmpI l k = i at *
    generalize (.int .i64 l[i].2 : Value) = old at *
    go_enter Try.func25, Try.ntmps25
    go_wp2_with (go_at_call 26; refine HC.out.mono ?_; rintro e w1 ⟨rfl, hb1⟩; obtain ⟨c0, c1, c2⟩ := H1.out w1 hb1)
    go_ret
    exact HF.out _ hb1

end Go.Proofs.Ytfoaalfkjknklaa
