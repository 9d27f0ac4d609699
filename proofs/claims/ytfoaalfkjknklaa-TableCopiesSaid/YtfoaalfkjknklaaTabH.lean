/- The table's Del, Pop and Copy at int keys with string values, by contract; and the law's 'small'. Conditions: each theorem's own. -/
import Derived.Test.YtfoaalfkjknklaaRefT
namespace Go.Proofs.Ytfoaalfkjknklaa
open Go.RowKit
abbrev TPintstring (w : World) (g : Nat) (v : Value) (r : Value) (l' : List (Int × ByteArray)) (e : Ending) (w' : World) : Prop := TblPost 35 68 (fun k => .int .i64 k) (fun x => .string x) w g v r l' e w'
/-- What a row's delete leaves of the table, once it is stored back. -/
theorem tbl_deleted_intstring {w w1 w2 : World} {g : Nat} {v v' : Value} {l : List (Int × ByteArray)} {i : Nat} (hT : Tblintstring w g v l) (hf1 : Frm [] w w1) (hi : i < l.length)
    (ho : w2.ownsRow 0 68 2 v' (l.length - 1) ((ents (fun k => .int .i64 k) (fun x => .string x) l).take (i * 2) ++ (ents (fun k => .int .i64 k) (fun x => .string x) l).drop ((i + 1) * 2))) (hf : Frm [v.ownBlock] w1 w2) (hv : v'.ownBlock = v.ownBlock) :
    w2.cell? ⟨g, 0, none⟩ = some v ∧ w2.frozen? ⟨g, 0, none⟩ = false ∧ ∀ r, TPintstring w g v r (l.take i ++ l.drop (i + 1)) (.returned r) (w2.setCell ⟨g, 0, none⟩ v') := by
  have hne := hT.ne (by decide)
  have hT1 := hT.frm hf1 (by simp) (by simp)
  have hb := hT1.blk.frm hf (by simpa using fun e => hne e.symm)
  refine ⟨by have := hb.cell 0; simpa using this, hb.frozen 0, fun r => ⟨v', rfl, ⟨by have := hb.set_ 0 v'; simpa using this, ?_⟩, ?_, .inl hv⟩⟩
  · have hl : (l.take i ++ l.drop (i + 1)).length = l.length - 1 := by simp; omega
    rw [hl, ents_append, ← ents_take, ← ents_drop]
    exact ((Frm.refl [some g] w2).setCell (p := ⟨g, 0, none⟩) (.inl (by simp)) v').own ho (fun b hb1 => by simp; rintro rfl; rw [hv] at hb1; exact hne hb1)
  · exact ((hf1.mono (by simp)).trans' hf (fun b hb => by simp at hb; exact .inl (by simp [← hb]))).setCell (.inl (by simp)) _
set_option maxHeartbeats 400000 in
theorem tdel_intstring (g : Nat) (v : Value) (l : List (Int × ByteArray)) (k : Int) (w : World) (hT : Tblintstring w g v l) (hs : Srt cmpI l) (hn : l.length ≤ 1000000) :
    Calls Try.prog 33 #[.pointer (some ⟨g, 0, none⟩), .int .i64 k] w (TPintstring w g v (.tuple #[.string (((tget cmpI l k).map (·.2)).getD ⟨#[]⟩), .bool (tget cmpI l k).isSome]) (tdel cmpI l k)) := by
  have hG := get_intstring g v l k w hT hs hn
  cases hq : tget cmpI l k with
  | none =>
    rw [hq] at hG
    have hfin : ∀ w1, Below w.heap.size w w1 → TPintstring w g v (.tuple #[.string ⟨#[]⟩, .bool false]) (tdel cmpI l k) (.returned (.tuple #[.string ⟨#[]⟩, .bool false])) w1 := fun w1 hb => by
      have : tdel cmpI l k = l := by unfold tdel; rw [hq]
      rw [this]
      exact ⟨v, rfl, hT.below hb, Frm.of_below hb, .inl rfl⟩
    have HG := Lib.hid hG; have HF := Lib.hid hfin
    clear hT hs hq hG hfin
    go_enter Try.func33, Try.ntmps33
    go_wp2_with (go_at_call 21; refine HG.out.mono ?_; rintro e w1 ⟨rfl, hb1⟩)
    go_ret2
    exact HF.out _ hb1
  | some e0 =>
    rw [hq] at hG
    obtain ⟨hi, he⟩ := tget_lt hq
    have hF := fun w1 (hb1 : Below w.heap.size w w1) => findY_intstring g v l k w1 (hT.below hb1) hs hn hq
    have hone : ∀ u ∈ ents (fun k => .int .i64 k) (fun x => .string x) l, u.oneCell' = true := ents_one (fun _ => rfl) (fun _ => rfl) l
    have hD := fun w1 (hb1 : Below w.heap.size w w1) => del_intstring v l.length (tix cmpI l k) _ w1 hn hi (hT.below hb1).own hone
    have hc := fun w1 (hb1 : Below w.heap.size w w1) => (hT.below hb1).cell
    have hfin := fun w1 w2 v' (hb1 : Below w.heap.size w w1) ho hf hv => tbl_deleted_intstring (w1 := w1) (w2 := w2) (v' := v') (i := tix cmpI l k) hT (Frm.of_below hb1) hi ho hf hv
    have hl : tdel cmpI l k = l.take (tix cmpI l k) ++ l.drop (tix cmpI l k + 1) := by unfold tdel; rw [hq]
    rw [hl]
    have HG := Lib.hid hG; have HF := Lib.hid hF; have HD := Lib.hid hD; have HC := Lib.hid hc; have HFIN := Lib.hid hfin
    clear hT hs hq hG hF hone hD hc hfin hl he
    have hi2 : tix cmpI l k + 1 ≤ 1000000 := by omega
    generalize tix cmpI l k = i at *
    obtain ⟨ek, ev⟩ := e0
    go_enter Try.func33, Try.ntmps33
    go_wp2_with (first
      | (go_at_call 21; refine HG.out.mono ?_; rintro e w1 ⟨rfl, hb1⟩; have c0 := HC.out w1 hb1)
      | (go_at_call 27; refine (HF.out _ hb1).mono ?_; rintro e w2 ⟨rfl, hb2⟩; have hb12 := hb1.trans (hb2.mono hb1.size); have c0 := HC.out w2 hb12)
      | (go_at_call 30; refine (HD.out _ hb12).mono ?_; rintro e w3 ⟨v', rfl, ho, hf, hv'⟩; obtain ⟨A, c, rfl⟩ := own_slice ho; obtain ⟨c2, c3, hfn⟩ := HFIN.out _ _ _ hb12 ho hf hv'; have HN := Lib.hid hfn; clear hfn))
    go_ret2
    exact HN.out _
set_option maxHeartbeats 400000 in
theorem pop_nil_intstring (g : Nat) (v : Value) (w : World) (hT : Tblintstring w g v []) :
    Calls Try.prog 15 #[.pointer (some ⟨g, 0, none⟩)] w (TPintstring w g v (.tuple #[.int .i64 0, .string ⟨#[]⟩, .bool false]) []) := by
  have hc := hT.cell
  have hfin : ∀ n, TPintstring w g v (.tuple #[.int .i64 0, .string ⟨#[]⟩, .bool false]) [] (.returned (.tuple #[.int .i64 0, .string ⟨#[]⟩, .bool false])) ((w.alloc (.cells #[.int .i64 0, .string ⟨#[]⟩] 68)).drewN n) := fun n =>
    ⟨v, rfl, ⟨(hT.alloc _).blk, (hT.alloc _).own⟩, ((Frm.refl _ _).alloc _).drewN n, .inl rfl⟩
  have HF := Lib.hid hfin
  obtain ⟨A, c, rfl⟩ := own_slice hT.own
  clear hT hfin
  go_enter Try.func15, Try.ntmps15
  go_wp2_with fail
  go_quiet (fail)
  go_wp2_with fail
  go_ret3
  exact HF.out _
set_option maxHeartbeats 400000 in
theorem pop_cons_intstring (g : Nat) (v : Value) (e : Int × ByteArray) (l : List (Int × ByteArray)) (w : World) (hT : Tblintstring w g v (e :: l)) (hn : (e :: l).length ≤ 1000000) :
    Calls Try.prog 15 #[.pointer (some ⟨g, 0, none⟩)] w (TPintstring w g v (.tuple #[.int .i64 e.1, .string e.2, .bool true]) l) := by
  have hc := hT.cell
  obtain ⟨r, cap, rfl, hrl, hnc, hcm, h0, h1, hfz⟩ := hT.row (by simp)
  have h00 := h0 0 (by simp)
  have h01 := h1 0 (by simp)
  simp only [List.getElem_cons_zero, Nat.zero_mul, Nat.zero_add] at h00 h01
  have hgl := hT.blk.lt
  have hone : ∀ u ∈ ents (fun k => .int .i64 k) (fun x => .string x) (e :: l), u.oneCell' = true := ents_one (fun _ => rfl) (fun _ => rfl) _
  have hD : Calls Try.prog 30 #[.slice (some ⟨r, 0, none⟩) (e :: l).length cap, .int .i64 0, .int .i64 1] (w.alloc (.cells #[.int .i64 e.1, .string e.2] 68)) (DelPost (w.alloc (.cells #[.int .i64 e.1, .string e.2] 68)) 68 2 (.slice (some ⟨r, 0, none⟩) (e :: l).length cap) (e :: l).length 0 (ents (fun k => .int .i64 k) (fun x => .string x) (e :: l))) :=
    del_intstring _ _ 0 _ _ hn (by simp) (hT.alloc _).own hone
  have hfin : ∀ w2 v', w2.ownsRow 0 68 2 v' ((e :: l).length - 1) ((ents (fun k => .int .i64 k) (fun x => .string x) (e :: l)).take (0 * 2) ++ (ents (fun k => .int .i64 k) (fun x => .string x) (e :: l)).drop ((0 + 1) * 2)) →
      Frm [(Value.slice (some ⟨r, 0, none⟩) (e :: l).length cap).ownBlock] (w.alloc (.cells #[.int .i64 e.1, .string e.2] 68)) w2 → v'.ownBlock = (Value.slice (some ⟨r, 0, none⟩) (e :: l).length cap).ownBlock →
      w2.cell? ⟨g, 0, none⟩ = some (.slice (some ⟨r, 0, none⟩) (e :: l).length cap) ∧ w2.frozen? ⟨g, 0, none⟩ = false ∧ w2.cell? ⟨w.heap.size, 0, none⟩ = some (.int .i64 e.1) ∧ w2.cell? ⟨w.heap.size, 1, none⟩ = some (.string e.2) ∧
        ∀ n, TPintstring w g (.slice (some ⟨r, 0, none⟩) (e :: l).length cap) (.tuple #[.int .i64 e.1, .string e.2, .bool true]) l (.returned (.tuple #[.int .i64 e.1, .string e.2, .bool true])) ((w2.setCell ⟨g, 0, none⟩ v').drewN n) := fun w2 v' ho hf hv => by
    obtain ⟨a1, a2, a3⟩ := tbl_deleted_intstring (w1 := w.alloc (.cells #[.int .i64 e.1, .string e.2] 68)) (w2 := w2) (v' := v') (i := 0) hT ((Frm.refl _ _).alloc _) (by simp) ho hf hv
    have hbn := (Blk.new w 68 #[.int .i64 e.1, .string e.2]).frm hf (by simp [Value.ownBlock]; omega)
    refine ⟨a1, a2, by rw [hbn.cell]; rfl, by rw [hbn.cell]; rfl, fun n => ?_⟩
    obtain ⟨v2, b1, b2, b3, b4⟩ := a3 (.tuple #[.int .i64 e.1, .string e.2, .bool true])
    exact ⟨v2, rfl, ⟨b2.blk, b2.own⟩, b3.drewN n, b4⟩
  have HD := Lib.hid hD; have HF := Lib.hid hfin
  clear hT h0 h1 hfz hone hD hfin
  obtain ⟨ek, ev⟩ := e
  simp only at HD HF h00 h01
  have hng : ¬ g = w.heap.size := by omega
  have hnl : ((((ek, ev) :: l).length : Int) == 0) = false := by rw [beq_eq_false_iff_ne]; simp; omega
  have hnl2 : (0 : Int) < (((ek, ev) :: l).length : Int) := by simp
  generalize ((ek, ev) :: l).length = n at *
  go_enter Try.func15, Try.ntmps15
  go_wp2_with (go_at_call 30; refine HD.out.mono ?_; rintro e w3 ⟨v', rfl, ho, hf, hv'⟩; obtain ⟨A, c, rfl⟩ := own_slice ho; obtain ⟨c2, c3, c4, c5, hfn⟩ := HF.out _ _ ho hf hv'; have HN := Lib.hid hfn; clear hfn)
  go_quiet (fail)
  go_wp2_with fail
  go_ret3
  exact HN.out _
set_option maxHeartbeats 400000 in
theorem tcopy_intstring (g : Nat) (v : Value) (l : List (Int × ByteArray)) (w : World) (hT : Tblintstring w g v l) (hn : l.length ≤ 1000000) :
    Calls Try.prog 19 #[.pointer (some ⟨g, 0, none⟩)] w (NewTbl 35 68 (fun k => .int .i64 k) (fun x => .string x) w l) := by
  have hc := hT.cell
  have hone : ∀ u ∈ ents (fun k => .int .i64 k) (fun x => .string x) l, u.oneCell' = true := ents_one (fun _ => rfl) (fun _ => rfl) _
  have HC := Lib.hid (clone_intstring v l.length _ w hn hT.own hone)
  have hfin : ∀ w1 v', w1.ownsRow 0 68 2 v' l.length (ents (fun k => .int .i64 k) (fun x => .string x) l) → Below w.heap.size w w1 → (∀ b, v'.ownBlock = some b → w.heap.size ≤ b) →
      NewTbl 35 68 (fun k => .int .i64 k) (fun x => .string x) w l (.returned (.pointer (some ⟨w1.heap.size, 0, none⟩))) (w1.alloc (.cells #[v'] 35)) := fun w1 v' ho hb hv =>
    ⟨_, _, rfl, ⟨Blk.new _ _ _, ho.alloc _⟩, hb.alloc hb.size _, hb.size, hv⟩
  have HF := Lib.hid hfin
  have hsl := own_slice hT.own
  clear hT hone hfin
  obtain ⟨A, c, rfl⟩ := hsl
  go_enter Try.func19, Try.ntmps19
  go_wp2_with (go_at_call 34; refine HC.out.mono ?_; rintro e w1 ⟨v', rfl, ho, hb, hv⟩; obtain ⟨A', c', rfl⟩ := own_slice ho; have HN := Lib.hid (HF.out _ _ ho hb hv); clear ho hb hv)
  go_ret
  exact HN.out
end Go.Proofs.Ytfoaalfkjknklaa
