/- The law TableCounts, walked: it answers true and writes nothing that was there. Conditions: the argument reads as the integers ks. -/
import Derived.Test.YtfoaalfkjknklaaPCounts
import Derived.Test.YtfoaalfkjknklaaTabG
namespace Go.Proofs.Ytfoaalfkjknklaa
open Go.RowKit

theorem getD_lt {α : Type} (l : List α) (d : α) (j : Nat) (h : j < l.length) : l.getD j d = l[j] := by simp [h]
theorem getY_cnt (g : Nat) (v : Value) (ks : List Int) (w : World) (hT : Tblintint w g v (tcount cmpI ks)) (hl : ks.length ≤ 1000000) (k : Int) (e0 : Int × Int) (hq : tget cmpI (tcount cmpI ks) k = some e0) :
    Calls Try.prog 9 #[.pointer (some ⟨g, 0, none⟩), .int .i64 k] w fun e w' => e = .returned (.tuple #[.int .i64 e0.2, .bool true]) ∧ Below w.heap.size w w' :=
  (get_intint g v _ k w hT (srt_tcount cmpI_ok ks) (by have := length_tcount (cmp := cmpI) ks; omega)).mono fun e w' h => by rw [hq] at h; exact h

set_option maxRecDepth 100000 in
set_option maxHeartbeats 1000000 in
theorem counts_walk (A : Option Addr) (c : Nat) (ks : List Int) (w : World)
    (hA : ∀ i (hi : i < ks.length), ∃ b o, A = some ⟨b, o, none⟩ ∧ b < w.heap.size ∧ w.cell? ⟨b, o + i, none⟩ = some (.int .i64 ks[i])) :
    Calls Try.prog 3 #[.slice A ks.length c] w fun e w' => e = .returned (.bool true) ∧ Below w.heap.size w w' := by
  by_cases hbig : 200 < ks.length
  · clear hA
    go_enter Try.func3, Try.ntmps3
    go_wp2_with (go_at_call 7; refine (awake_true _).mono ?_; rintro e w1 ⟨rfl, hb1⟩)
    go_ret
    exact ⟨rfl, hb1⟩
  · have hl : ks.length ≤ 1000000 := by omega
    have HC := Lib.hid (count_int A c ks w hl hA)
    have HA := Lib.hid hA; clear hA
    go_enter Try.func3, Try.ntmps3
    go_wp2_with (go_at_call 8; refine HC.out.mono ?_; rintro e w1 ⟨g, v, rfl, ht, hb1, hg1, hv1⟩)
    have HT := Lib.hid ht; have HV := Lib.hid hv1; have HL := Lib.hid hl
    have hgl := ht.blk.lt
    clear ht hv1 HC hl
    go_loopw [26] (fun i wr => ∃ k : Nat, k ≤ ks.length ∧ i = .int .i64 k ∧ Below w1.heap.size w1 wr) (fun i _ => ks.length - (intOf i).toNat)
    case atStart => exact ⟨0, by omega, rfl, Below.refl _ _⟩
    case round =>
      obtain ⟨k, hk, rfl, hbr⟩ := hrel
      have hbw := hb1.trans (hbr.mono hb1.size)
      by_cases hlt : k < ks.length
      · obtain ⟨b, o, rfl, hbl, h0⟩ := HA.out k hlt
        have g0 := (hbw.cell (p := ⟨b, o + k, none⟩) hbl).trans h0
        have hcell : ∀ j, j < ks.length → wr.cell? ⟨b, o + j, none⟩ = some (.int .i64 (ks.getD j 0)) := fun j hj => by
          obtain ⟨b', o', he, hbl', h0'⟩ := HA.out j hj
          injection he with he; injection he with he1 he2; subst he1; subst he2
          rw [getD_lt _ _ _ hj]
          exact (hbw.cell (p := ⟨b, o + j, none⟩) hbl').trans h0'
        have hget := getY_cnt g v ks wr (HT.out.below hbr) HL.out ks[k] (ks[k], (ks.count ks[k] : Int)) (tget_tcount_mem cmpI_ok ks HL.out (List.getElem_mem hlt))
        have HG := Lib.hid hget; have HCE := Lib.hid hcell
        clear hget hcell h0
        generalize ks[k] = key at *
        have hcb : ∀ j, ((ks.take j).count key : Int) ≤ 200 := fun j => by have := List.count_le_length (a := key) (l := ks.take j); rw [List.length_take] at this; omega
        have HCB := Lib.hid hcb; clear hcb
        obtain ⟨wo, hwo⟩ : ∃ wo : World, wo = wr := ⟨_, rfl⟩
        go_wp2_with fail
        go_loop [7, 32] (fun n i => ∃ j : Nat, j ≤ ks.length ∧ i = .int .i64 j ∧ n = .int .i64 ((ks.take j).count key : Nat)) (fun _ i => ks.length - (intOf i).toNat)
        case atStart => exact ⟨0, by omega, rfl, by simp⟩
        case round =>
          obtain ⟨j, hj, rfl, rfl⟩ := hrel
          by_cases hlt2 : j < ks.length
          · have g1 := HCE.out j hlt2
            have hb5 := HCB.out j
            have hs5 : Hid ((ks.take (j + 1)).count key = (ks.take j).count key + if ks.getD j 0 == key then 1 else 0) := by
              unfold Hid
              rw [List.take_succ_eq_append_getElem hlt2, List.count_append, getD_lt _ _ _ hlt2]
              simp [List.count_cons]
            generalize ks.getD j 0 = q at *
            by_cases hqk : q = key
            · subst hqk
              go_wp2_with fail
              go_round
              case rel => exact ⟨j + 1, by omega, by go_num, by rw [hs5.out]; simp⟩
              case measure => simp [intOf]; omega
            · have hqk' : (q == key) = false := by simpa using hqk
              go_wp2_with fail
              go_round
              case rel => exact ⟨j + 1, by omega, by go_num, by rw [hs5.out, hqk']; simp⟩
              case measure => simp [intOf]; omega
          · have hjl : j = ks.length := by omega
            subst hjl
            have htl : List.take ks.length ks = ks := List.take_length
            rw [htl]
            clear htl
            subst hwo
            go_wp2_with (go_at_call 9; refine HG.out.mono ?_; rintro e w2 ⟨rfl, hb2⟩)
            go_roundw
            case rel => exact ⟨k + 1, by omega, by go_num, hbr.trans (hb2.mono hbr.size)⟩
            case measure => simp [intOf]; omega
      · have HTr := Lib.hid (HT.out.below hbr)
        have hlc := length_tcount (cmp := cmpI) ks
        have hkeys := keys_intint g v (tcount cmpI ks) wr HTr.out (by omega)
        have HK := Lib.hid hkeys
        have HBW := Lib.hid hbw
        clear hkeys hbr hbw HA hbig
        go_wp2_with (go_at_call 10; refine HK.out.mono ?_; rintro e w2 ⟨vk, rfl, ho2, hb2, hv2⟩; obtain ⟨Ak, ck, rfl⟩ := own_slice ho2; have HO2 := Lib.hid ho2; clear ho2 hv2)
        obtain ⟨tl, htl⟩ : ∃ tl, tl = tcount cmpI ks := ⟨_, rfl⟩
        have HTK : Hid (∀ j (hj : j < tl.length), ∃ r, Ak = some ⟨r, 0, none⟩ ∧ r < w2.heap.size ∧ w2.cell? ⟨r, j, none⟩ = some (.int .i64 tl[j].1)) := by
          unfold Hid
          subst htl
          intro j hj
          have ho := HO2.out
          rcases ho.2 with ⟨_, h0⟩ | ⟨r, cap, cur, hv, _, hg, _⟩
          · omega
          · injection hv with h1 h2 h3
            subst h1; subst h3
            exact ⟨r, rfl, (Array.getElem?_eq_some_iff.1 hg).1, by rw [ho.cellAt j (by omega)]; simp [hj]⟩
        have HTG : Hid (∀ j (hj : j < tl.length) (W : World), Below wr.heap.size wr W → Calls Try.prog 9 #[.pointer (some ⟨g, 0, none⟩), .int .i64 tl[j].1] W fun e w' => e = .returned (.tuple #[.int .i64 tl[j].2, .bool true]) ∧ Below W.heap.size W w') := by
          unfold Hid
          subst htl
          intro j hj W hW
          exact getY_cnt g v ks W (HTr.out.below hW) HL.out _ _ (tcount_entry cmpI_ok ks HL.out (List.getElem_mem hj)).2.2
        have HTS : Hid (∀ j, 0 ≤ tsum (tl.take j) ∧ tsum (tl.take j) ≤ ks.length) := by
          unfold Hid
          subst htl
          exact tsum_take cmpI_ok ks HL.out
        have HTN : Hid (tsum tl = ks.length) := by
          unfold Hid
          subst htl
          exact tsum_tcount cmpI_ok ks HL.out
        rw [← htl] at hlc ⊢
        clear htl HO2 HK
        obtain ⟨wq, rfl⟩ : ∃ wq : World, wq = wr := ⟨_, rfl⟩
        go_loopw [4, 59] (fun n i w3 => ∃ j : Nat, j ≤ tl.length ∧ i = .int .i64 j ∧ n = .int .i64 (tsum (tl.take j)) ∧ Below w2.heap.size w2 w3) (fun _ i _ => tl.length - (intOf i).toNat)
        case atStart => exact ⟨0, by omega, rfl, rfl, Below.refl _ _⟩
        case round =>
          obtain ⟨j, hj, rfl, rfl, hb3⟩ := hrel
          have hb23 : Below wq.heap.size wq wr := hb2.trans (hb3.mono hb2.size)
          by_cases hlt : j < tl.length
          · obtain ⟨r, rfl, hrl, h0⟩ := HTK.out j hlt
            have g0 := (hb3.cell (p := ⟨r, j, none⟩) hrl).trans h0
            have hG := Lib.hid (HTG.out j hlt wr hb23)
            have hS := HTS.out j
            have hS1 := HTS.out (j + 1)
            have hsn : tsum (tl.take (j + 1)) = tsum (tl.take j) + tl[j].2 := by rw [List.take_succ_eq_append_getElem hlt, tsum_append]; simp [tsum]
            rw [hsn] at hS1
            have HSN := Lib.hid hsn
            clear h0 hsn
            generalize tl[j] = q at *
            generalize tsum (tl.take j) = s0 at *
            obtain ⟨qk, qv⟩ := q
            go_wp2_with (go_at_call 9; refine hG.out.mono ?_; rintro e w4 ⟨rfl, hb4⟩)
            go_roundw
            case rel => exact ⟨j + 1, by omega, by go_num, by rw [HSN.out], hb3.trans (hb4.mono hb3.size)⟩
            case measure => simp [intOf]; omega
          · have hjl : j = tl.length := by omega
            subst hjl
            rw [List.take_length, HTN.out]
            have hbf := Lib.hid ((HBW.out.trans (hb23.mono HBW.out.size)))
            clear HBW HTN HTS HTG HTK hb3 hb2 hb23 hlt hj hlc HTr HT HV
            go_wp2_with (go_at_call 7; refine (awake_true _).mono ?_; rintro e w5 ⟨rfl, hb5⟩)
            go_ret
            exact ⟨rfl, hbf.out.trans (hb5.mono hbf.out.size)⟩

end Go.Proofs.Ytfoaalfkjknklaa
