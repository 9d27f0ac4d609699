/- The table's All, as an iterator, by contract. Conditions: the table's own. -/
import Derived.RangeFuncNested
import Derived.RangeFuncBound
import Derived.RangeFuncCalls
import Derived.RangeFuncLeaves
import Derived.RangeFuncFrom
import Derived.RangeFuncWrites
import Derived.Shelf.Abstract
import Derived.Shelf.RegionOpen
import Derived.OwnWalkIn
import Derived.TacticsInMore
import Derived.LoopNIn
import Derived.LoopIn
import Derived.Test.YtfoaalfkjknklaaStepT
namespace Go.Proofs.Ytfoaalfkjknklaa
open Go.RowKit
attribute [local go_sem] Oper.semAt_some
/-- What a round of the range keeps: every block of cells but those in Ex. -/
def KpC (Ex : Nat → Prop) (W W' : World) : Prop := W.heap.size ≤ W'.heap.size ∧ ∀ k c e f, ¬ Ex k → W.heap[k]? = some (.cells c e f) → W'.heap[k]? = some (.cells c e f)
theorem KpC.trans {Ex : Nat → Prop} {A B C : World} (h : KpC Ex A B) (k : KpC Ex B C) : KpC Ex A C := ⟨Nat.le_trans h.1 k.1, fun i c e f hi hc => k.2 i c e f hi (h.2 i c e f hi hc)⟩
theorem KpC.putObj {Ex : Nat → Prop} (W : World) (l : Nat) (o o' : Obj) (h : W.heap[l]? = some o) (ho : o.isCells = false) : KpC Ex W (W.putObj l o') :=
  ⟨by simp, fun k c e f _ hc => by
    rw [World.putObj_heap_other (fun e => by subst e; rw [h] at hc; injection hc with hc; subst hc; simp [Obj.isCells] at ho)]
    exact hc⟩
theorem KpC.own {Ex : Nat → Prop} {W W' : World} (h : KpC Ex W W') {base e sz n : Nat} {v : Value} {xs : List Value} (ho : W.ownsRow base e sz v n xs) (hn : ∀ b, v.ownBlock = some b → ¬ Ex b) : W'.ownsRow base e sz v n xs := by
  refine ⟨ho.1, ?_⟩
  rcases ho.2 with h0 | ⟨g, cap, cur, rfl, hb, hg, r⟩
  · exact .inl h0
  · exact .inr ⟨g, cap, cur, rfl, hb, h.2 _ _ _ _ (hn g rfl) hg, r⟩
theorem KpC.blk {Ex : Nat → Prop} {W W' : World} (h : KpC Ex W W') {g : Nat} {t : TypeId} {cs : Array Value} (hb : Blk W g t cs) (hn : ¬ Ex g) : Blk W' g t cs := h.2 _ _ _ _ hn hb

set_option maxRecDepth 100000 in
set_option maxHeartbeats 2000000 in
theorem all1_stops (n : Nat) (hn : 1 ≤ n) (Bx g : Nat) (v : Value) (l : PL) (w : World) (hc : Blk w Bx 32 #[.pointer (some ⟨g, 0, none⟩)]) (hT : Tblintstring w g v l) (hl : l.length ≤ 1000000) (Ex : Nat → Prop) (hEx : ∀ b, Ex b → b < w.heap.size) :
    SeqStopsK Fence.wide n Try.prog 35 #[.pointer (some ⟨Bx, 0, none⟩)] (fun e : Int × ByteArray => #[.int .i64 e.1, .string e.2]) (KpC Ex) (fun ys => ys = l) (fun pre => pre <+: l) l.length w := fun lp J Jx W hW hJ hJx hY h0 => by
  have hcW := (hc.below hW hc.lt).cell 0
  simp only [List.getElem?_toArray, List.getElem?_cons_zero] at hcW
  have hTW := hT.below hW
  have hcT := hTW.cell
  have hone : ∀ u ∈ ents (fun k => .int .i64 k) (fun x => .string x) l, u.oneCell' = true := ents_one (fun _ => rfl) (fun _ => rfl) _
  have HCL := Lib.hid (callsIn_wide.2 (clone_intstring v l.length _ W hl hTW.own hone) : CallsIn Fence.wide (n - 1) Try.prog 34 #[v] W _)
  have hsl := own_slice hTW.own
  have hWs := hW.size
  obtain ⟨A, c, rfl⟩ := hsl
  clear hTW hone hT
  refine callsIn_of_wp Try.func35 rfl trivial ?_ rfl
  simp only [Try.ntmps35, List.size_toArray, List.length_cons, List.length_nil, Nat.reduceAdd, Nat.reduceSub, Array.replicate_succ, Array.replicate_zero, List.push_toArray, List.append_toArray, List.nil_append, List.cons_append]
  gi_wp2_with (refine ⟨trivial, ?_⟩; gi_at_call 34; refine HCL.out.mono ?_; rintro e W1 ⟨v', rfl, ho, hb, hv⟩; obtain ⟨A', c', rfl⟩ := own_slice ho; have HO := Lib.hid ho; have HB := Lib.hid hb; have HV := Lib.hid hv; clear ho hb hv)
  have hJ1 : J [] W1 := hJ _ _ _ none h0 ⟨HB.out.os, HB.out.tape, HB.out.output, HB.out.size, fun k hk _ => HB.out.block k hk⟩ (fun r e => by cases e)
  have HY := Lib.hid hY; have HJ := Lib.hid hJ
  have HNE : Hid (∀ b, (Value.slice A' l.length c').ownBlock = some b → ¬ Ex b) := fun b hb he => by
    have := HV.out b hb; have := hEx b he; omega
  clear hY hJ hJx hcT hcW HCL h0
  gi_loopw [11] (fun i wr => ∃ k : Nat, k ≤ l.length ∧ i = .int .i64 k ∧ J (l.take k) wr ∧ wr.ownsRow 0 68 2 (.slice A' l.length c') l.length (ents (fun k => .int .i64 k) (fun x => .string x) l) ∧ W.heap.size ≤ wr.heap.size) (fun i _ => l.length - (intOf i).toNat)
  case atStart => exact ⟨0, by omega, rfl, hJ1, HO.out, HB.out.size⟩
  case round =>
    obtain ⟨k, hk, rfl, hJs, hor, hsz⟩ := hrel
    by_cases hlt : k < l.length
    · obtain ⟨r, rfl, hrl, h1, h2⟩ := own_cells2 hor k hlt
      have hJ2 := HJ.out _ _ _ none hJs (World.grownBy_alloc wr (.cells #[.int .i64 l[k].1, .string l[k].2] 68) none) (fun r e => by cases e)
      have hsn : l.take (k + 1) = l.take k ++ [l[k]] := List.take_succ_eq_append_getElem hlt
      obtain ⟨fn, tmps, assign, body, hy, hR⟩ := HY.out _ l[k] _ hJ2 (by rw [List.length_take]; omega)
      have hor2 := hor.alloc (.cells #[.int .i64 l[k].1, .string l[k].2] 68)
      try dsimp only at hy
      have HOR := Lib.hid hor2; have HR := Lib.hid hR; have HSN := Lib.hid hsn
      clear hor hor2 hR hsn hJs hJ2
      generalize l[k] = q at *
      obtain ⟨q1, q2⟩ := q
      simp only at h1 h2 hy
      gi_wp2
      refine HR.out.mono ?_
      rintro e W3 (⟨rfl, hJ3, hk3⟩ | ⟨rfl, hJx3⟩)
      · have hs3 := hk3.1
        have hor3 := hk3.own HOR.out HNE.out
        have HJ3 := Lib.hid hJ3; have HOR3 := Lib.hid hor3
        clear hJ3 hor3 hk3
        gi_wp2
        go_roundw
        case rel => exact ⟨k + 1, by omega, by go_num, by rw [HSN.out]; exact HJ3.out, HOR3.out, by simp at hs3; omega⟩
        case measure => simp [intOf]; omega
      · have HJX := Lib.hid hJx3; clear hJx3
        gi_wp2
        refine bodyPost_ret (results_none rfl _ _ _) rfl ?_
        exact ⟨⟨_, rfl⟩, .inr ⟨_, by rw [← HSN.out]; exact List.take_prefix _ _, HJX.out⟩⟩
    · have hkl : k = l.length := by omega
      have hJe : J l wr := by rw [hkl, List.take_length] at hJs; exact hJs
      have HJE := Lib.hid hJe
      clear hJs hJe hor hkl
      gi_wp2
      go_end0
      exact ⟨⟨_, rfl⟩, .inl ⟨_, rfl, HJE.out⟩⟩

theorem all_any (g : Nat) (w : World) :
    Calls Try.prog 20 #[.pointer (some ⟨g, 0, none⟩)] w fun e w' => e = .returned (.func (.func 35) #[] #[.pointer (some ⟨w.heap.size, 0, none⟩)]) ∧ w' = w.alloc (.cells #[.pointer (some ⟨g, 0, none⟩)] 32) := by
  go_enter Try.func20, Try.ntmps20
  go_wp2
  go_ret
  exact ⟨rfl, rfl⟩
theorem kpc_of_grown {A B : World} {row : Option Nat} (hg : A.grownBy B row) (hr : ∀ r, row = some r → ∃ o : Obj, A.heap[r]? = some o ∧ o.isCells = false) : KpC (fun _ => False) A B :=
  ⟨hg.size, fun k c e f _ hc => (hg.block k (Array.getElem?_eq_some_iff.1 hc).1 (fun he => by
    obtain ⟨o, ho, hcl⟩ := hr k he.symm
    rw [hc] at ho
    injection ho with ho
    subst ho
    simp [Obj.isCells] at hcl)).trans hc⟩

structure SameI (w : World) (R BL BK BN : Nat) (vs vk : Value) (l pre : PL) (W : World) : Prop where
  pf : pre <+: l
  n : Blk W BN 3 #[.int .i64 pre.length]
  L : Blk W BL 36 #[vs]
  K : Blk W BK 22 #[vk]
  rl : OwnP W vs l
  rk : W.ownsRow 0 3 1 vk l.length (l.map fun e => .int .i64 e.1)
  r : Blk W R 4 #[.bool false]
  b : Below w.heap.size w W
theorem SameI.kept {w : World} {R BL BK BN : Nat} {vs vk : Value} {l pre : PL} {A B : World} (h : SameI w R BL BK BN vs vk l pre A) (hk : KpC (fun _ => False) A B) (hb : Below w.heap.size A B) : SameI w R BL BK BN vs vk l pre B :=
  ⟨h.pf, hk.blk h.n id, hk.blk h.L id, hk.blk h.K id, hk.own h.rl (fun _ _ => id), hk.own h.rk (fun _ _ => id), hk.blk h.r id, h.b.trans hb⟩
theorem SameI.ownFrom {w : World} {R BL BK BN : Nat} {vs vk : Value} {l : PL} {B0 : Nat} (hB : w.heap.size ≤ B0) : OwnFrom B0 (SameI w R BL BK BN vs vk l) := fun s A B row hs hg hr =>
  hs.kept (kpc_of_grown hg fun r e => (hr r e).2) ((Below.refl _ _).grown hg (hs.b.size) (fun k e => by have := (hr k e).1; omega))
theorem SameI.next {w : World} {R BL BK BN : Nat} {vs vk : Value} {l pre : PL} {W : World} (h : SameI w R BL BK BN vs vk l pre W) (hw : w.heap.size ≤ BN) (hd : BN ≠ R ∧ BN ≠ BL ∧ BN ≠ BK) (x : Int × ByteArray) (hx : pre ++ [x] <+: l) (hvs : ∀ b, vs.ownBlock = some b → b ≠ BN) (hvk : ∀ b, vk.ownBlock = some b → b ≠ BN) (m : Int) (hm : m = pre.length + 1) :
    SameI w R BL BK BN vs vk l (pre ++ [x]) (W.setCell ⟨BN, 0, none⟩ (.int .i64 m)) := by
  have hf : Frm [some BN] W (W.setCell ⟨BN, 0, none⟩ (.int .i64 m)) := (Frm.refl _ _).setCell (.inl (by simp)) _
  refine ⟨hx, ?_, h.L.frm hf (by simpa using hd.2.1.symm), h.K.frm hf (by simpa using hd.2.2.symm), hf.own h.rl (fun b hb => by simpa using hvs b hb), hf.own h.rk (fun b hb => by simpa using hvk b hb), h.r.frm hf (by simpa using hd.1.symm), h.b.setCell (p := ⟨BN, 0, none⟩) hw _⟩
  have := h.n.set_ 0 (.int .i64 m)
  rw [hm] at this ⊢
  simpa using this
set_option maxRecDepth 100000 in
set_option maxHeartbeats 4000000 in
theorem same_true (w0 : World) (g : Nat) (v vx : Value) (l x : PL) (w : World) (hB : Both w0 w g v vx l x) (hl : l.length ≤ 1000) (hx : x.length ≤ 1000) :
    Calls Try.prog 18 #[.pointer (some ⟨g, 0, none⟩), vx] w fun e w' => e = .returned (.bool true) ∧ Below w.heap.size w w' := by
  have hsort := fun w1 (hb : Below w.heap.size w w1) => rsorted_any vx x w1 (hB.below hb).o (by omega)
  rw [hB.m.sorted] at hsort
  have hkeys := fun w1 (hb : Below w.heap.size w w1) => keys_intstring g v l w1 (hB.below hb).t.t (by omega)
  have hlen := fun w1 (hb : Below w.heap.size w w1) => len_intstring g v l w1 (hB.below hb).t.t
  have HSO := Lib.hid hsort; have HKE := Lib.hid hkeys; have HLE := Lib.hid hlen; have HBO := Lib.hid hB
  obtain ⟨A, c, rfl⟩ := own_slice hB.o
  clear hsort hkeys hlen hB
  have HA1 : Hid (Below w.heap.size w (w.alloc (.cells #[.bool false] 4))) := (Below.refl _ _).alloc (Nat.le_refl _) _
  refine (callsIn_wide (n := 6)).1 ?_
  refine callsIn_of_wp_marks Try.func18 rfl trivial ?_ rfl
  simp only [Try.ntmps18, List.size_toArray, List.length_cons, List.length_nil, Nat.reduceAdd, Nat.reduceSub, Array.replicate_succ, Array.replicate_zero, List.push_toArray, List.append_toArray, List.nil_append, List.cons_append]
  refine wpIn_wide.2 ?_
  go_wp2_with (first
    | (go_at_call 14; refine (HSO.out _ HA1.out).mono ?_; rintro e w2 ⟨vs, rfl, hos, hbs, hvs⟩; obtain ⟨As, cs, rfl⟩ := own_slice hos; have HOS := Lib.hid hos; have HBS := Lib.hid hbs; have HB2 := Lib.hid ((HA1.out.trans (hbs.mono HA1.out.size)).alloc (by have := hbs.size; have := HA1.out.size; omega) (.cells #[.slice As l.length cs] 36)); clear hos hbs hvs)
    | (go_at_call 22; refine (HKE.out _ HB2.out).mono ?_; rintro e w3 ⟨vk, rfl, hok, hbk, hvk⟩; obtain ⟨Ak, ck, rfl⟩ := own_slice hok; have HOK := Lib.hid hok; have HBK := Lib.hid hbk; clear hok hbk hvk))
  obtain ⟨W4, hW4⟩ : ∃ W4, W4 = w3.alloc (.cells #[.slice Ak l.length ck] 22) := ⟨_, rfl⟩
  have hb4 : Below w.heap.size w W4 := by rw [hW4]; exact (HB2.out.trans (HBK.out.mono HB2.out.size)).alloc (by have := HBK.out.size; have := HB2.out.size; omega) _
  have hbL : Blk W4 w2.heap.size 36 #[.slice As l.length cs] := by
    rw [hW4]; exact ((Blk.new w2 _ _).below HBK.out (Blk.new w2 _ _).lt).alloc _
  have hbK : Blk W4 w3.heap.size 22 #[.slice Ak l.length ck] := by rw [hW4]; exact Blk.new _ _ _
  have hLen : ∀ n, Calls Try.prog 16 #[.pointer (some ⟨g, 0, none⟩)] (W4.drewN n) fun e w' => e = .returned (.int .i64 l.length) ∧ w' = W4.drewN n := fun n => (HLE.out (W4.drewN n) ⟨hb4.os, hb4.tape, hb4.output, hb4.size, hb4.block⟩).mono fun e w' h => ⟨h.1, h.2.symm⟩
  have cL := hbL.cell 0
  have cK := hbK.cell 0
  simp only [List.getElem?_toArray, List.getElem?_cons_zero] at cL cK
  rw [← hW4]
  have hW4' := hW4
  have HL4 := Lib.hid hLen; have HB4 := Lib.hid hb4; have HBL := Lib.hid hbL; have HBKK := Lib.hid hbK
  clear hLen hb4 hbL hbK hW4
  have HW4 := Lib.hid hW4'; clear hW4'
  go_quiet ((go_at_call 16; exact Calls.quiet_of_same (HL4.out _)))
  obtain ⟨W5, hW5⟩ : ∃ W5, W5 = W4.drewN nq := ⟨_, rfl⟩
  have hW4' := HW4.out
  have HI5 : Hid (Blk W5 w2.heap.size 36 #[.slice As l.length cs] ∧ Blk W5 w3.heap.size 22 #[.slice Ak l.length ck] ∧ OwnP W5 (.slice As l.length cs) l ∧ W5.ownsRow 0 3 1 (.slice Ak l.length ck) l.length (l.map fun e => .int .i64 e.1) ∧ Blk W5 w.heap.size 4 #[.bool false] ∧ Below w.heap.size w W5 ∧ w.heap.size < w2.heap.size ∧ w2.heap.size < w3.heap.size ∧ w3.heap.size < W5.heap.size) := by
    have hs1 := HA1.out.size
    have hz1 : w.heap.size < (w.alloc (.cells #[.bool false] 4)).heap.size := by simp
    have hs2 := HBS.out.size
    have hz2 : w2.heap.size < (w2.alloc (.cells #[.slice As l.length cs] 36)).heap.size := by simp
    have hs3 := HBK.out.size
    have hb34 : Below w3.heap.size w3 W4 := by rw [hW4']; exact (Below.refl _ _).alloc (Nat.le_refl _) _
    have hz4 : w3.heap.size < W4.heap.size := by rw [hW4']; simp
    have hb24 : Below (w2.alloc (.cells #[.slice As l.length cs] 36)).heap.size (w2.alloc (.cells #[.slice As l.length cs] 36)) W4 := HBK.out.trans (hb34.mono hs3)
    have hR : Blk W4 w.heap.size 4 #[.bool false] := ((((Blk.new w 4 #[.bool false]).below HBS.out (Blk.new w 4 #[.bool false]).lt).alloc _).below HBK.out (by omega)).below hb34 (by omega)
    refine ⟨by rw [hW5]; exact HBL.out, by rw [hW5]; exact HBKK.out, by rw [hW5]; exact (Frm.of_below hb24 (S := [])).own (HOS.out.alloc _) (by simp), by rw [hW5]; exact (Frm.of_below hb34 (S := [])).own HOK.out (by simp), by rw [hW5]; exact hR, by rw [hW5]; exact ⟨HB4.out.os, HB4.out.tape, HB4.out.output, HB4.out.size, HB4.out.block⟩, by omega, by omega, by rw [hW5]; exact hz4⟩
  rw [← hW5]
  clear hW4' HW4 hW5 cL cK HL4 HB4 HBL HBKK HA1 HBS HB2 HBK HOS HOK
  obtain ⟨BL, hBL⟩ : ∃ BL, BL = w2.heap.size := ⟨_, rfl⟩
  obtain ⟨BK, hBK⟩ : ∃ BK, BK = w3.heap.size := ⟨_, rfl⟩
  rw [← hBL, ← hBK] at HI5 ⊢
  clear hBL hBK HSO HKE HLE w2 w3 W4
  go_wp2_with (go_at_call 20; refine (all_any _ _).mono ?_; rintro e w5 ⟨rfl, rfl⟩)
  obtain ⟨h5L, h5K, h5rl, h5rk, h5r, h5b, hz1, hz2, hz3⟩ := HI5.out
  clear HI5
  obtain ⟨BN, hBN⟩ : ∃ BN, BN = W5.heap.size := ⟨_, rfl⟩
  obtain ⟨W6, hW6⟩ : ∃ W6, W6 = (W5.alloc (.cells #[.int .i64 0] 3)).alloc (.cells #[.pointer (some ⟨g, 0, none⟩)] 32) := ⟨_, rfl⟩
  have h56 : Frm [] W5 W6 := by rw [hW6]; exact ((Frm.refl _ _).alloc _).alloc _
  have hN6 : Blk W6 BN 3 #[.int .i64 0] := by rw [hW6, hBN]; exact (Blk.new W5 _ _).alloc _
  have hX6 : Blk W6 (BN + 1) 32 #[.pointer (some ⟨g, 0, none⟩)] := by
    rw [hW6, hBN]; have := Blk.new (W5.alloc (.cells #[.int .i64 0] 3)) 32 #[.pointer (some ⟨g, 0, none⟩)]; simpa using this
  have hb6 : Below w.heap.size w W6 := h5b.trans (h56.below h5b.size (by simp))
  have hI0 : SameI w w.heap.size BL BK BN (.slice As l.length cs) (.slice Ak l.length ck) l [] W6 :=
    ⟨List.nil_prefix, hN6, h5L.frm h56 (by simp), h5K.frm h56 (by simp), h56.own h5rl (by simp), h56.own h5rk (by simp), h5r.frm h56 (by simp), hb6⟩
  have hT6 := (HBO.out.t.t.below hb6)
  have hz6 : BN + 1 < W6.heap.size := hX6.lt
  have hvs : ∀ b, (Value.slice As l.length cs).ownBlock = some b → b ≠ BN := fun b hb he => by have := (h5rl.lt b hb).2; omega
  have hvk : ∀ b, (Value.slice Ak l.length ck).ownBlock = some b → b ≠ BN := fun b hb he => by have := (h5rk.lt b hb).2; omega
  have hseq := all1_stops 5 (by omega) (BN + 1) g v l W6 hX6 hT6 (by omega) (fun b => b = BN) (fun b hb => by omega)
  rw [← hW6, ← hBN]
  have hwB := h5b.size
  have hwN : w.heap.size ≤ BN := by omega
  have hdis : BN ≠ w.heap.size ∧ BN ≠ BL ∧ BN ≠ BK := ⟨by omega, by omega, by omega⟩
  clear h5L h5K h5rl h5rk h5r h5b h56 hT6 hX6 hN6 hW6 hBN HBO
  refine (wpIn_wide (n := 6)).1 ?_
  refine wpIn_rangeFunc_ownG rfl (by omega) (gf := 35) (lb := #[.pointer (some ⟨BN + 1, 0, none⟩)]) rfl trivial (enters_of Try.func35 (by kernel_rfl) rfl) hseq KpC.trans (fun W l o o' _ h ho _ => KpC.putObj W l o o' h ho) (Below.refl _ _) (fun _ => rfl)
    (SameI w w.heap.size BL BK BN (.slice As l.length cs) (.slice Ak l.length ck) l)
    (fun c pre W => ¬ (pre <+: l)) (SameI.ownFrom (by omega)) (fun c s A B row hs hg hr => hs) hI0 ?a1 ?assign ?body ?done ?stop
  case assign =>
    intro lp x W K hK
    gi_wp2
    exact hK
  case body =>
    rintro lp pre x W hI hlen
    have cN := hI.n.cell 0
    have fN := hI.n.frozen 0
    have cL := hI.L.cell 0
    have cK := hI.K.cell 0
    have cR := hI.r.cell 0
    have fR := hI.r.frozen 0
    simp only [List.getElem?_toArray, List.getElem?_cons_zero] at cN cL cK cR
    obtain ⟨r, hAs, hrl, h0, h1⟩ := own_cells2 hI.rl pre.length hlen
    obtain ⟨rk, hAk, hk0⟩ : ∃ rk, Ak = some ⟨rk, 0, none⟩ ∧ W.cell? ⟨rk, pre.length, none⟩ = some (.int .i64 l[pre.length].1) := by
      have ho := hI.rk
      rcases ho.2 with ⟨_, h0⟩ | ⟨rk, cap, cur, hv, _, hg, _⟩
      · omega
      · injection hv with h1 h2 h3
        subst h1; subst h3
        exact ⟨rk, rfl, by rw [ho.cellAt _ (by omega)]; simp [hlen]⟩
    subst hAs; subst hAk
    have hpre : ∀ y, pre ++ [y] <+: l ↔ y = l[pre.length] := fun y => by
      obtain ⟨t, ht⟩ := hI.pf
      constructor
      · rintro ⟨u, hu⟩
        have := List.getElem?_eq_getElem hlen
        conv at this => lhs; rw [← hu]
        simp at this
        exact this
      · rintro rfl
        refine ⟨l.drop (pre.length + 1), ?_⟩
        rw [List.append_assoc]
        have h1 : pre = l.take pre.length := by rw [← ht]; simp
        conv => lhs; lhs; rw [h1]
        rw [List.singleton_append, ← List.drop_eq_getElem_cons hlen, List.take_append_drop]
    have hgo : x = l[pre.length] → ∀ m : Int, m = pre.length + 1 → KeepsFrom W6.heap.size W (W.setCell ⟨BN, 0, none⟩ (.int .i64 m)) ∧ KpC (fun b => b = BN) W (W.setCell ⟨BN, 0, none⟩ (.int .i64 m)) ∧ SameI w w.heap.size BL BK BN (.slice (some ⟨r, 0, none⟩) l.length cs) (.slice (some ⟨rk, 0, none⟩) l.length ck) l (pre ++ [x]) (W.setCell ⟨BN, 0, none⟩ (.int .i64 m)) := fun he m hm =>
      ⟨(KeepsOthers.setCell _ _ _).from _, ⟨by simp [World.setCell], fun k c e f hk hc => (Below.heap_setCell W ⟨BN, 0, none⟩ _ k hk).trans hc⟩, hI.next hwN hdis x ((hpre x).2 he) hvs hvk m hm⟩
    have hstop : x ≠ l[pre.length] → ∀ u, KeepsFrom W6.heap.size W (W.setCell ⟨w.heap.size, 0, none⟩ u) ∧ ¬ (pre ++ [x] <+: l) := fun he u => ⟨(KeepsOthers.setCell _ _ _).from _, fun h => he ((hpre x).1 h)⟩
    have HG := Lib.hid hgo; have HS := Lib.hid hstop
    have hbk : (pre.length : Int) < (l.length : Int) := by omega
    clear hgo hstop hpre hseq hI0 hI
    generalize l[pre.length] = q at *
    obtain ⟨q1, q2⟩ := q
    obtain ⟨x1, x2⟩ := x
    simp only at h0 h1 hk0
    by_cases hx1 : x1 = q1
    · subst hx1
      by_cases hx2 : x2 = q2
      · subst hx2
        gi_wp2
        exact HG.out (by first | rfl | trivial) _ rfl
      · have hne : (x2.toList == q2.toList) = false := by rw [beq_eq_false_iff_ne]; exact fun h => hx2 ((toList_inj _ _).1 h)
        have hne2 : (!(x2.toList == q2.toList)) = true := by rw [hne]; rfl
        clear hx2
        gi_wp2
        exact HS.out (fun h => by simp only [Prod.mk.injEq, true_and] at h; rw [h] at hne; simp at hne) _
    · have hne : (x1 == q1) = false := by simpa using hx1
      have hne2 : (x1 != q1) = true := by simpa using hx1
      gi_wp2
      exact HS.out (fun h => by injection h with h _; exact hx1 h) _
  case done =>
    rintro D ys W hD rfl hI hK
    have cN := hI.n.cell 0
    have cL := hI.L.cell 0
    have cR := hI.r.cell 0
    have fR := hI.r.frozen 0
    simp only [List.getElem?_toArray, List.getElem?_cons_zero] at cN cL cR
    have HK := Lib.hid hK; have HI := Lib.hid hI
    have hb0 := hI.b.size
    clear hK hI hseq hI0 hvs hvk
    go_wp2
    have hK' := (KeepsOthers.setCell W ⟨w.heap.size, 0, none⟩ (.bool true)).same D _ HK.out rfl
    refine ⟨by simp, .inl ⟨_, _, rfl, run_takeDeferred hK', ?_⟩⟩
    have hc5 := cell_kept (World.cell?_setCell_same' W ⟨w.heap.size, 0, none⟩ (.bool true) (by rw [cR]; rfl)) (grownBy_putObj' _ D (.deferred none)) (fun r e => by cases e; exact ⟨_, hK', rfl⟩)
    refine ⟨.bool true, ?_, rfl, (HI.out.b.setCell (p := ⟨w.heap.size, 0, none⟩) (Nat.le_refl _) _).trans (belowK_b (w := w) (Nat.le_refl _) _ D _ _ (by have := hb6.size; omega) hK' rfl rfl)⟩
    simp [results, Try.f18, go_sem, hc5]
  case stop =>
    rintro D c pre W hD hp hx hK
    exact absurd hp hx

end Go.Proofs.Ytfoaalfkjknklaa
