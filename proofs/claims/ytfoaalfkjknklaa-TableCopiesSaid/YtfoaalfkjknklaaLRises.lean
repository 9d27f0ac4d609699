/- The law TableRises, walked: it answers true and writes nothing that was there. Conditions: the argument reads as calls. -/
import Derived.Test.YtfoaalfkjknklaaPRises
import Derived.Test.YtfoaalfkjknklaaSmallT
namespace Go.Proofs.Ytfoaalfkjknklaa
open Go.RowKit
theorem own_own_ne {w : World} {b b' e e' sz sz' n n' : Nat} {v v' : Value} {xs xs' : List Value} (h : w.ownsRow b e sz v n xs) (h' : w.ownsRow b' e' sz' v' n' xs') (hne : e ≠ e') : ∀ k, v.ownBlock = some k → v'.ownBlock ≠ some k := by
  intro k hk hk'
  rcases h'.2 with ⟨rfl, _⟩ | ⟨g', cap, cur, rfl, _, hh, _⟩
  · simp [Value.ownBlock] at hk'
  · simp [Value.ownBlock] at hk'
    subst hk'
    exact own_blk_ne h (show Blk w g' e' cur from hh) hne hk
theorem OwnP.ne_ {w : World} {v : Value} {l : PL} (h : OwnP w v l) {g : Nat} {v' : Value} {l' : List (Int × ByteArray)} (hT : Tblintstring w g v' l') : ∀ b, v.ownBlock = some b → some b ∉ [some g, v'.ownBlock] := by
  intro b hb
  have h1 := own_blk_ne h hT.blk (by decide)
  have h2 := own_own_ne h hT.own (by decide) b hb
  simp only [List.mem_cons, List.not_mem_nil, or_false, not_or]
  exact ⟨fun e => h1 (by rw [hb]; exact e), fun e => h2 e.symm⟩
/-- The table and the list of pairs, both the call's own, hold the same. -/
structure Both (w0 w : World) (g : Nat) (v vx : Value) (l x : PL) : Prop where
  t : AwT w0 w g v l
  o : OwnP w vx x
  m : Mtch x l
  vx0 : ∀ b, vx.ownBlock = some b → w0.heap.size ≤ b
theorem Both.below {w0 w w' : World} {g : Nat} {v vx : Value} {l x : PL} (h : Both w0 w g v vx l x) (hb : Below w.heap.size w w') : Both w0 w' g v vx l x :=
  ⟨h.t.below hb, (Frm.of_below hb (S := [])).own h.o (by simp), h.m, h.vx0⟩
set_option maxRecDepth 100000 in
set_option maxHeartbeats 1000000 in
theorem rises_walk (A : Option Addr) (c : Nat) (ops : List TOp) (w : World) (hA : IsOps w A ops) (hm : ops.length ≤ 9223372036854775807) :
    Calls Try.prog 4 #[.slice A ops.length c] w fun e w' => e = .returned (.bool true) ∧ Below w.heap.size w w' := by
  have HSM := Lib.hid (small_any A c ops w hA hm)
  cases hsm : smallB ops with
  | false =>
    rw [hsm] at HSM
    clear hA hsm
    go_enter Try.func4, Try.ntmps4
    go_wp2_with (first | (go_at_call 11; refine HSM.out.mono ?_; rintro e w1 ⟨rfl, hb1⟩) | (go_at_call 7; refine (awake_true _).mono ?_; rintro e w2 ⟨rfl, hb2⟩))
    go_ret
    exact ⟨rfl, hb1.trans (hb2.mono hb1.size)⟩
  | true =>
    rw [hsm] at HSM
    have hl100 := smallB_len hsm
    have HA := Lib.hid hA; clear hA hsm
    go_enter Try.func4, Try.ntmps4
    go_wp2_with (go_at_call 11; refine HSM.out.mono ?_; rintro e w1 ⟨rfl, hb1⟩)
    have HB1 := Lib.hid hb1; clear HSM hb1
    have hs1 := HB1.out.size
    go_loopw [4, 23] (fun vx i wr => ∃ (k : Nat) (v : Value) (l x : PL), k ≤ ops.length ∧ i = .int .i64 k ∧ Both w wr w1.heap.size v vx l x ∧ l.length ≤ k ∧ x.length ≤ k) (fun _ i _ => ops.length - (intOf i).toNat)
    case atStart =>
      exact ⟨0, .slice none 0 0, [], [], by omega, rfl, ⟨⟨⟨Blk.new _ _ _, World.ownsRow_nil _ _ _ _⟩, HB1.out.alloc HB1.out.size _, HB1.out.size, by simp [Value.ownBlock]⟩, World.ownsRow_nil _ _ _ _, Mtch.nil, by simp [Value.ownBlock]⟩, by simp, by simp⟩
    case round =>
      obtain ⟨k, v, l, x, hk, rfl, hB, hll, hxl⟩ := hrel
      by_cases hlt : k < ops.length
      · obtain ⟨b, o, rfl, hbl, h0, h1, h2⟩ := (IsOps.below HA.out (hB.t.b.mono (Nat.le_refl _))) k hlt
        have HB := Lib.hid hB; clear hB
        generalize ops[k] = q at *
        obtain ⟨q0, q1, q2⟩ := q
        simp only at h0 h1 h2
        obtain ⟨W2, hW2⟩ : ∃ W2, W2 = wr.alloc (.cells #[.int .i64 q0, .int .i64 q1, .string q2] 38) := ⟨_, rfl⟩
        have hbW : Below wr.heap.size wr W2 := by rw [hW2]; exact (Below.refl _ _).alloc (Nat.le_refl _) _
        have hblk : Blk W2 wr.heap.size 38 #[.int .i64 q0, .int .i64 q1, .string q2] := by rw [hW2]; exact Blk.new _ _ _
        have hB2 := HB.out.below hbW
        have hset := set_intstring w1.heap.size v l q1 q2 W2 hB2.t.t HB.out.m.srt (by omega)
        have hstep : ∀ w3 r e, TPintstring W2 w1.heap.size v r (tset cmpI l q1 q2) e w3 → ∃ v', e = .returned r ∧ AwT w w3 w1.heap.size v' (tset cmpI l q1 q2) ∧ OwnP w3 u4 x ∧ w3.cell? ⟨wr.heap.size, 1, none⟩ = some (.int .i64 q1) ∧ w3.cell? ⟨wr.heap.size, 2, none⟩ = some (.string q2) := fun w3 r e hp => by
          obtain ⟨v', he, ht⟩ := hB2.t.step hp
          obtain ⟨_, _, _, hf, _⟩ := hp
          have hgl := HB.out.t.t.blk.lt
          have hvl := HB.out.t.t.own.lt
          have hb3 := hblk.frm hf (by
            simp only [List.mem_cons, List.not_mem_nil, or_false, not_or]
            exact ⟨fun e => by injection e with e; omega, fun e => by have := (hvl _ e.symm).2; omega⟩)
          exact ⟨v', he, ht, hf.own hB2.o (hB2.o.ne_ hB2.t.t), by rw [hb3.cell]; rfl, by rw [hb3.cell]; rfl⟩
        have hrel : ∀ w3 w4 v' vx', AwT w w3 w1.heap.size v' (tset cmpI l q1 q2) → w4.ownsRow 0 43 2 vx' (rset x q1 q2).length (pents (rset x q1 q2)) → Below w3.heap.size w3 w4 → (∀ b, vx'.ownBlock = some b → w3.heap.size ≤ b) →
            ∃ (k' : Nat) (v : Value) (l x : PL), k' = k + 1 ∧ Both w w4 w1.heap.size v vx' l x ∧ l.length ≤ k + 1 ∧ x.length ≤ k + 1 := fun w3 w4 v' vx' ht ho hb hv => by
          have hsz := ht.b.size
          refine ⟨k + 1, v', _, _, rfl, ⟨ht.below hb, ho, HB.out.m.set_ q1 q2, fun b hb' => ?_⟩, ?_, ?_⟩
          · have := hv b hb'; omega
          · have := length_tset (cmp := cmpI) (l := l) q1 q2; omega
          · have := length_rset x q1 q2; omega
        have hrset := fun w3 (ho : OwnP w3 u4 x) => rset_any u4 x q1 q2 w3 ho (by omega)
        have HS := Lib.hid hset; have HST := Lib.hid hstep; have HR := Lib.hid hrel; have HRS := Lib.hid hrset
        clear hset hstep hrel hrset hB2 hblk hbW
        subst hW2
        go_wp2_with (first
          | (go_at_call 12; refine HS.out.mono ?_; intro e w3 hp; obtain ⟨v', rfl, ht, ho, c1, c2⟩ := HST.out _ _ _ hp; have HT := Lib.hid ht; have HO := Lib.hid ho; clear ht ho hp)
          | (go_at_call 13; refine (HRS.out _ HO.out).mono ?_; rintro e w4 ⟨vx', rfl, ho, hb, hv⟩; obtain ⟨A', c', rfl⟩ := own_slice ho; obtain ⟨k', v9, l9, x9, hk', hB9, hl9, hx9⟩ := HR.out _ _ _ _ HT.out ho hb hv; have HB9 := Lib.hid hB9; have HK9 := Lib.hid hk'; clear ho hb hv hB9 hk'))
        go_roundw
        case rel => exact ⟨k + 1, v9, l9, x9, by omega, by go_num, HB9.out, hl9, hx9⟩
        case measure => simp [intOf]; omega
      · have hsort := rsorted_any u4 x wr hB.o (by omega)
        rw [hB.m.sorted] at hsort
        have HSO := Lib.hid hsort
        have HB := Lib.hid hB.t; clear hB hsort
        go_wp2_with (go_at_call 14; refine HSO.out.mono ?_; rintro e w2 ⟨vs, rfl, ho2, hb2, hv2⟩; obtain ⟨A2, c2, rfl⟩ := own_slice ho2; have HO2 := Lib.hid (show OwnP w2 _ l from ho2); have HT2 := Lib.hid (HB.out.below hb2); clear ho2 hb2 hv2)
        clear HSO HB HA
        go_loopw [43] (fun i wr => ∃ (j : Nat) (v : Value), j ≤ l.length ∧ i = .int .i64 j ∧ AwT w wr w1.heap.size v (l.drop j) ∧ OwnP wr (.slice A2 l.length c2) l) (fun i _ => l.length - (intOf i).toNat)
        case atStart => exact ⟨0, v, by omega, rfl, by rw [List.drop_zero]; exact HT2.out, HO2.out⟩
        case round =>
          obtain ⟨j, v, hj, rfl, hT, hO⟩ := hrel
          by_cases hlt : j < l.length
          · obtain ⟨r, rfl, hrl, h0, h1⟩ := own_cells2 hO j hlt
            have hdr : l.drop j = l[j] :: l.drop (j + 1) := List.drop_eq_getElem_cons hlt
            rw [hdr] at hT
            generalize l[j] = q at *
            obtain ⟨q1, q2⟩ := q
            simp only at h0 h1
            have hbW : Below wr.heap.size wr (wr.alloc (.cells #[.int .i64 q1, .string q2] 43)) := (Below.refl _ _).alloc (Nat.le_refl _) _
            have hblk : Blk (wr.alloc (.cells #[.int .i64 q1, .string q2] 43)) wr.heap.size 43 #[.int .i64 q1, .string q2] := Blk.new _ _ _
            have hT2 := hT.below hbW
            have hpop := pop_cons_intstring w1.heap.size v (q1, q2) (l.drop (j + 1)) _ hT2.t (by rw [← hdr, List.length_drop]; omega)
            have hstep : ∀ w3 rv e, TPintstring (wr.alloc (.cells #[.int .i64 q1, .string q2] 43)) w1.heap.size v rv (l.drop (j + 1)) e w3 → ∃ v', e = .returned rv ∧ AwT w w3 w1.heap.size v' (l.drop (j + 1)) ∧ OwnP w3 (.slice (some ⟨r, 0, none⟩) l.length c2) l ∧ w3.cell? ⟨wr.heap.size, 0, none⟩ = some (.int .i64 q1) ∧ w3.cell? ⟨wr.heap.size, 1, none⟩ = some (.string q2) := fun w3 rv e hp => by
              obtain ⟨v', he, ht⟩ := hT2.step hp
              obtain ⟨_, _, _, hf, _⟩ := hp
              have hgl := hT.t.blk.lt
              have hvl := hT.t.own.lt
              have hb3 := hblk.frm hf (by
                simp only [List.mem_cons, List.not_mem_nil, or_false, not_or]
                exact ⟨fun e => by injection e with e; omega, fun e => by have := (hvl _ e.symm).2; omega⟩)
              have hO2 := (Frm.of_below hbW (S := [])).own hO (by simp)
              exact ⟨v', he, ht, hf.own hO2 (OwnP.ne_ hO2 hT2.t), by rw [hb3.cell]; rfl, by rw [hb3.cell]; rfl⟩
            have HP := Lib.hid hpop; have HST := Lib.hid hstep
            clear hpop hstep hbW hblk hT2 hdr hT hO
            go_wp2_with (go_at_call 15; refine HP.out.mono ?_; intro e w3 hp; obtain ⟨v', rfl, ht, ho, c1, c2⟩ := HST.out _ _ _ hp; have HT3 := Lib.hid ht; have HO3 := Lib.hid ho; clear ht ho hp)
            go_roundw
            case rel => exact ⟨j + 1, v', by omega, by go_num, HT3.out, HO3.out⟩
            case measure => simp [intOf]; omega
          · have hjl : l.drop j = [] := List.drop_of_length_le (by omega)
            rw [hjl] at hT
            have hpop := pop_nil_intstring w1.heap.size v wr hT.t
            have hstep : ∀ w3 r e, TPintstring wr w1.heap.size v r [] e w3 → ∃ v', e = .returned r ∧ AwT w w3 w1.heap.size v' [] := fun w3 r e hp => hT.step hp
            have HP := Lib.hid hpop; have HST := Lib.hid hstep
            clear hpop hstep hT hO hjl HO2 HT2
            go_wp2_with (first
              | (go_at_call 15; refine HP.out.mono ?_; intro e w3 hp; obtain ⟨v', rfl, ht⟩ := HST.out _ _ _ hp; have HT3 := Lib.hid ht; clear ht hp)
              | (go_at_call 16; refine (len_intstring _ _ _ _ HT3.out.t).mono ?_; rintro e w4 ⟨rfl, rfl⟩)
              | (go_at_call 7; refine (awake_true _).mono ?_; rintro e w5 ⟨rfl, hb5⟩))
            go_ret
            exact ⟨rfl, HT3.out.b.trans (hb5.mono HT3.out.b.size)⟩

end Go.Proofs.Ytfoaalfkjknklaa
