/- The law TablePlays, walked: it answers true and writes nothing that was there. Conditions: the argument reads as calls. -/
import Derived.Test.YtfoaalfkjknklaaIterT
namespace Go.Proofs.Ytfoaalfkjknklaa
open Go.RowKit
theorem step_any (w0 : World) (g : Nat) (v vx : Value) (l x : PL) (q : TOp) (w : World) (hB : Both w0 w g v vx l x) (hl : l.length ≤ 1000) (hx : x.length ≤ 1000) :
    Calls Try.prog 17 #[.pointer (some ⟨g, 0, none⟩), vx, .agg #[.int .i64 q.kind, .int .i64 q.k, .string q.v]] w (StepPost w0 w g v (rstep x l q)) := by
  obtain ⟨kd, k, s⟩ := q
  simp only
  by_cases h1 : kd = 1
  · subst h1
    have := step_set w0 g v vx l x k s w hB hl hx
    simpa [rstep] using this
  by_cases h2 : kd = 2
  · subst h2
    rcases find_facts hB.m k with ⟨hq, hr⟩ | ⟨⟨e1, e2⟩, i, hq, hr, hi, hxi⟩
    · simpa [rstep] using step_getN w0 g v vx l x k s w hB hl hx hq hr
    · simpa [rstep] using step_getY w0 g v vx l x k s w hB hl hx e1 e2 i hq hr hi hxi
  by_cases h3 : kd = 3
  · subst h3
    rcases find_facts hB.m k with ⟨hq, hr⟩ | ⟨⟨e1, e2⟩, i, hq, hr, hi, hxi⟩
    · simpa [rstep] using step_delN w0 g v vx l x k s w hB hl hx hq hr
    · simpa [rstep] using step_delY w0 g v vx l x k s w hB hl hx e1 e2 i hq hr hi hxi
  by_cases h4 : kd = 4
  · subst h4
    rcases find_facts hB.m k with ⟨hq, hr⟩ | ⟨⟨e1, e2⟩, i, hq, hr, hi, hxi⟩
    · exact step_popN w0 g v vx l x k s w hB hl hx hr
    · exact step_popY w0 g v vx l x k s w hB hl hx e1 e2 i hr hi hxi
  have he : rstep x l ⟨kd, k, s⟩ = (x, l) := by simp [rstep, h1, h2, h3, h4]
  rw [he]
  rcases find_facts hB.m k with ⟨hq, hr⟩ | ⟨⟨e1, e2⟩, i, hq, hr, hi, hxi⟩
  · exact step_noneN w0 g v vx l x kd k s w hB hx ⟨h1, h2, h3, h4⟩ hr
  · exact step_noneY w0 g v vx l x kd k s w hB hx ⟨h1, h2, h3, h4⟩ e1 e2 i hr hi hxi
theorem rstep_len (x l : PL) (q : TOp) : (rstep x l q).1.length ≤ x.length + 1 ∧ (rstep x l q).2.length ≤ l.length + 1 := by
  unfold rstep
  have h1 := length_rset x q.k q.v
  have h2 := length_tset (cmp := cmpI) (l := l) q.k q.v
  have h3 := rdel_len x q.k
  have h4 : (tdel cmpI l q.k).length ≤ l.length := by unfold tdel; split <;> (try have := tix_le (cmp := cmpI) l q.k) <;> simp <;> omega
  split
  · exact ⟨h1, h2⟩
  · split
    · exact ⟨by simp, by simp⟩
    · split
      · exact ⟨by simp; omega, by simp; omega⟩
      · split
        · split
          · exact ⟨by simp, by simp⟩
          · rename_i e l'
            have := rdel_len x e.1
            exact ⟨by simp; omega, by simp; omega⟩
        · exact ⟨by simp, by simp⟩

set_option maxRecDepth 100000 in
set_option maxHeartbeats 1000000 in
theorem plays_walk (A : Option Addr) (c : Nat) (ops : List TOp) (w : World) (hA : IsOps w A ops) (hm : ops.length ≤ 9223372036854775807) :
    Calls Try.prog 5 #[.slice A ops.length c] w fun e w' => e = .returned (.bool true) ∧ Below w.heap.size w w' := by
  have HSM := Lib.hid (small_any A c ops w hA hm)
  cases hsm : smallB ops with
  | false =>
    rw [hsm] at HSM
    clear hA hsm
    go_enter Try.func5, Try.ntmps5
    go_wp2_with (first | (go_at_call 11; refine HSM.out.mono ?_; rintro e w1 ⟨rfl, hb1⟩) | (go_at_call 7; refine (awake_true _).mono ?_; rintro e w2 ⟨rfl, hb2⟩))
    go_ret
    exact ⟨rfl, hb1.trans (hb2.mono hb1.size)⟩
  | true =>
    rw [hsm] at HSM
    have hl100 := smallB_len hsm
    have HA := Lib.hid hA; clear hA hsm
    go_enter Try.func5, Try.ntmps5
    go_wp2_with (first | (go_at_call 11; refine HSM.out.mono ?_; rintro e w1 ⟨rfl, hb1⟩) | (go_at_call 7; refine (awake_true _).mono ?_; rintro e w2 ⟨rfl, hb2⟩))
    have HB1 := Lib.hid (hb1.trans (hb2.mono hb1.size)); clear HSM hb1 hb2
    go_loopw [4, 20] (fun vx i wr => ∃ (k : Nat) (v : Value) (l x : PL), k ≤ ops.length ∧ i = .int .i64 k ∧ Both w wr w2.heap.size v vx l x ∧ l.length ≤ k ∧ x.length ≤ k) (fun _ i _ => ops.length - (intOf i).toNat)
    case atStart =>
      exact ⟨0, .slice none 0 0, [], [], by omega, rfl, ⟨⟨⟨Blk.new _ _ _, World.ownsRow_nil _ _ _ _⟩, HB1.out.alloc HB1.out.size _, HB1.out.size, by simp [Value.ownBlock]⟩, World.ownsRow_nil _ _ _ _, Mtch.nil, by simp [Value.ownBlock]⟩, by simp, by simp⟩
    case round =>
      obtain ⟨k, v, l, x, hk, rfl, hB, hll, hxl⟩ := hrel
      by_cases hlt : k < ops.length
      · obtain ⟨b, o, rfl, hbl, h0, h1, h2⟩ := (IsOps.below HA.out (hB.t.b.mono (Nat.le_refl _))) k hlt
        have hbW : Below wr.heap.size wr (wr.alloc (opBox ops[k])) := (Below.refl _ _).alloc (Nat.le_refl _) _
        have hB2 := hB.below hbW
        have hlen := rstep_len x l ops[k]
        have hst := step_any w w2.heap.size v u4 l x ops[k] (wr.alloc (opBox ops[k])) hB2 (by omega) (by omega)
        have hsame := fun v' vx' w3 (hB3 : Both w w3 w2.heap.size v' vx' (rstep x l ops[k]).2 (rstep x l ops[k]).1) => same_true w w2.heap.size v' vx' _ _ w3 hB3 (by omega) (by omega)
        have HST := Lib.hid hst; have HSA := Lib.hid hsame
        clear hst hsame hB hB2 hbW
        generalize rstep x l ops[k] = p at *
        obtain ⟨x', l'⟩ := p
        generalize ops[k] = q at *
        obtain ⟨q0, q1, q2⟩ := q
        simp only at h0 h1 h2 hlen HST HSA
        go_wp2_with (first
          | (go_at_call 17; refine HST.out.mono ?_; rintro e w3 ⟨v', vx', rfl, hB3, hf3, hv3⟩; obtain ⟨A', c', rfl⟩ := own_slice hB3.o; have HB3 := Lib.hid hB3; clear hB3 hf3 hv3)
          | (go_at_call 18; refine (HSA.out _ _ _ HB3.out).mono ?_; rintro e w4 ⟨rfl, hb4⟩; have HB4 := Lib.hid (HB3.out.below hb4); clear hb4))
        go_roundw
        case rel => exact ⟨k + 1, v', l', x', by omega, by go_num, HB4.out, by omega, by omega⟩
        case measure => simp [intOf]; omega
      · have HB := Lib.hid hB.t.b; clear hB
        go_wp2_with (go_at_call 7; refine (awake_true _).mono ?_; rintro e w5 ⟨rfl, hb5⟩)
        go_ret
        exact ⟨rfl, HB.out.trans (hb5.mono HB.out.size)⟩

end Go.Proofs.Ytfoaalfkjknklaa
