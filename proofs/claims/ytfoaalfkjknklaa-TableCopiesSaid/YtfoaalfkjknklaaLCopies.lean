/- The law TableCopies, walked: it answers true and writes nothing that was there. Conditions: the arguments read as calls. -/
import Derived.Test.YtfoaalfkjknklaaLPlays
import Derived.Test.YtfoaalfkjknklaaRoundT
namespace Go.Proofs.Ytfoaalfkjknklaa
open Go.RowKit
attribute [local go_sem] Oper.semAt_some
theorem Mtch.len {x l : PL} (h : Mtch x l) : x.length = l.length := by
  have h1 : x.Nodup := List.Pairwise.imp (fun {a b} hab he => hab (by rw [he])) (List.pairwise_map.1 h.keys)
  have h2 : l.Nodup := List.Pairwise.imp (fun {a b} hab he => by rw [he, (cmpI_ok.eq _ _).2 rfl] at hab; omega) h.srt
  exact ((List.perm_ext_iff_of_nodup h1 h2).2 h.mem).length_eq
theorem Both.kept {w0 w w' : World} {g : Nat} {v vx : Value} {l x : PL} (h : Both w0 w g v vx l x) (hk : KpC (fun _ => False) w w') (hb : Below w0.heap.size w w') : Both w0 w' g v vx l x :=
  ⟨⟨⟨hk.blk h.t.t.blk id, hk.own h.t.t.own (fun _ _ => id)⟩, h.t.b.trans hb, h.t.g0, h.t.v0⟩, hk.own h.o (fun _ _ => id), h.m, h.vx0⟩
/-- A store into a block that is neither the table's nor the list's. -/
theorem Both.far {w0 w : World} {g : Nat} {v vx : Value} {l x : PL} (h : Both w0 w g v vx l x) {b : Nat} {t : TypeId} {cs : Array Value} (hb : Blk w b t cs) (h1 : t ≠ 35) (h2 : t ≠ 68) (h3 : t ≠ 43) (hw : w0.heap.size ≤ b) (u : Value) : Both w0 (w.setCell ⟨b, 0, none⟩ u) g v vx l x := by
  have hf : Frm [some b] w (w.setCell ⟨b, 0, none⟩ u) := (Frm.refl _ _).setCell (.inl (by simp)) _
  have hg : g ≠ b := fun e => Blk.ne_ h.t.t.blk hb h1.symm e
  refine ⟨⟨h.t.t.frm hf (by simpa using hg) fun b' hb' => ?_, h.t.b.setCell (p := ⟨b, 0, none⟩) hw _, h.t.g0, h.t.v0⟩, hf.own h.o fun b' hb' => ?_, h.m, h.vx0⟩
  · simp; rintro rfl; exact own_blk_ne h.t.t.own hb h2.symm hb'
  · simp; rintro rfl; exact own_blk_ne h.o hb h3.symm hb'

set_option maxRecDepth 100000 in
set_option maxHeartbeats 1000000 in
theorem copies_big (A A' : Option Addr) (c c' : Nat) (ops more : List TOp) (stop : Int) (w : World) (hA : IsOps w A ops) (hA' : IsOps w A' more) (hm : ops.length ≤ 9223372036854775807) (hm' : more.length ≤ 9223372036854775807) (hs : smallB ops = false ∨ smallB more = false) :
    Calls Try.prog 6 #[.slice A ops.length c, .slice A' more.length c', .int .i64 stop] w fun e w' => e = .returned (.bool true) ∧ Below w.heap.size w w' := by
  have HS1 := Lib.hid fun w1 (hb : Below w.heap.size w w1) => small_any A c ops w1 (hA.below hb) hm
  have HS2 := Lib.hid fun w1 (hb : Below w.heap.size w w1) => small_any A' c' more w1 (hA'.below hb) hm'
  have HB0 : Hid (Below w.heap.size w ((w.alloc (.cells #[.int .i64 stop] 3)).alloc (.cells #[.bool false] 4))) := ((Below.refl _ _).alloc (Nat.le_refl _) _).alloc (by simp) _
  have HR : Hid (∀ w1, Below ((w.alloc (.cells #[.int .i64 stop] 3)).alloc (.cells #[.bool false] 4)).heap.size ((w.alloc (.cells #[.int .i64 stop] 3)).alloc (.cells #[.bool false] 4)) w1 → w1.cell? ⟨w.heap.size + 1, 0, none⟩ = some (.bool false) ∧ w1.frozen? ⟨w.heap.size + 1, 0, none⟩ = false) := fun w1 hb => by
    have hbk : Blk ((w.alloc (.cells #[.int .i64 stop] 3)).alloc (.cells #[.bool false] 4)) (w.heap.size + 1) 4 #[.bool false] := by
      have := Blk.new (w.alloc (.cells #[.int .i64 stop] 3)) 4 #[.bool false]
      simpa using this
    have h2 := hbk.below hb hbk.lt
    exact ⟨by rw [h2.cell]; rfl, h2.frozen _⟩
  clear hA hA'
  rcases hs with hs | hs
  · rw [hs] at HS1
    clear hs
    go_enter Try.func6, Try.ntmps6
    go_wp2_with (first
      | (go_at_call 11; refine (HS1.out _ HB0.out).mono ?_; rintro e w1 ⟨rfl, hb1⟩)
      | (go_at_call 7; refine (awake_true _).mono ?_; rintro e w2 ⟨rfl, hb2⟩; have hb12 := hb1.trans (hb2.mono hb1.size); obtain ⟨d1, d2⟩ := HR.out _ hb12))
    have hc5 := World.cell?_setCell_same' w2 ⟨w.heap.size + 1, 0, none⟩ (.bool true) (by rw [d1]; rfl)
    refine bodyPost_ret (v := .bool true) (by simp [results, Try.f6, go_sem, hc5]) rfl ⟨rfl, ?_⟩
    exact (HB0.out.trans (hb12.mono HB0.out.size)).setCell (p := ⟨w.heap.size + 1, 0, none⟩) (by simp) _
  · rw [hs] at HS2
    clear hs
    cases hs1 : smallB ops with
    | false =>
      rw [hs1] at HS1
      clear hs1
      go_enter Try.func6, Try.ntmps6
      go_wp2_with (first
        | (go_at_call 11; refine (HS1.out _ HB0.out).mono ?_; rintro e w1 ⟨rfl, hb1⟩)
        | (go_at_call 7; refine (awake_true _).mono ?_; rintro e w2 ⟨rfl, hb2⟩; have hb12 := hb1.trans (hb2.mono hb1.size); obtain ⟨d1, d2⟩ := HR.out _ hb12))
      have hc5 := World.cell?_setCell_same' w2 ⟨w.heap.size + 1, 0, none⟩ (.bool true) (by rw [d1]; rfl)
      refine bodyPost_ret (v := .bool true) (by simp [results, Try.f6, go_sem, hc5]) rfl ⟨rfl, ?_⟩
      exact (HB0.out.trans (hb12.mono HB0.out.size)).setCell (p := ⟨w.heap.size + 1, 0, none⟩) (by simp) _
    | true =>
      rw [hs1] at HS1
      clear hs1
      go_enter Try.func6, Try.ntmps6
      go_wp2_with fail
      refine (HS1.out _ HB0.out).mono ?_
      rintro e w0 ⟨rfl, hb0⟩
      go_wp2_with fail
      refine (HS2.out _ (HB0.out.trans (hb0.mono HB0.out.size))).mono ?_
      rintro e w1 ⟨rfl, hb1'⟩
      have hb1 := hb0.trans (hb1'.mono hb0.size)
      clear hb0 hb1'
      go_wp2_with (go_at_call 7; refine (awake_true _).mono ?_; rintro e w2 ⟨rfl, hb2⟩; have hb12 := hb1.trans (hb2.mono hb1.size); obtain ⟨d1, d2⟩ := HR.out _ hb12)
      have hc5 := World.cell?_setCell_same' w2 ⟨w.heap.size + 1, 0, none⟩ (.bool true) (by rw [d1]; rfl)
      refine bodyPost_ret (v := .bool true) (by simp [results, Try.f6, go_sem, hc5]) rfl ⟨rfl, ?_⟩
      exact (HB0.out.trans (hb12.mono HB0.out.size)).setCell (p := ⟨w.heap.size + 1, 0, none⟩) (by simp) _

structure CI (w : World) (S R g BX : Nat) (stop : Int) (v vx : Value) (l x : PL) (W : World) : Prop where
  both : Both w W g v vx l x
  bs : Blk W S 3 #[.int .i64 stop]
  br : Blk W R 4 #[.bool false]
  bx : Blk W BX 36 #[vx]
theorem CI.below {w W W' : World} {S R g BX : Nat} {stop : Int} {v vx : Value} {l x : PL} (h : CI w S R g BX stop v vx l x W) (hb : Below W.heap.size W W') : CI w S R g BX stop v vx l x W' :=
  ⟨h.both.below hb, h.bs.below hb h.bs.lt, h.br.below hb h.br.lt, h.bx.below hb h.bx.lt⟩
theorem CI.kept {w W W' : World} {S R g BX : Nat} {stop : Int} {v vx : Value} {l x : PL} (h : CI w S R g BX stop v vx l x W) (hk : KpC (fun _ => False) W W') (hb : Below w.heap.size W W') : CI w S R g BX stop v vx l x W' :=
  ⟨h.both.kept hk hb, hk.blk h.bs id, hk.blk h.br id, hk.blk h.bx id⟩
theorem blk_frm_tbl {W W' : World} {g' : Nat} {v' : Value} {l' : PL} (hT : Tblintstring W g' v' l') (hf : Frm [some g', v'.ownBlock] W W') {b : Nat} {t : TypeId} {cs : Array Value} (hb : Blk W b t cs) (h1 : t ≠ 35) (h2 : t ≠ 68) : Blk W' b t cs :=
  hb.frm hf (by
    simp only [List.mem_cons, List.not_mem_nil, or_false, not_or]
    exact ⟨fun e => Blk.ne_ hT.blk hb h1.symm (by injection e with e; exact e.symm), fun e => own_blk_ne hT.own hb h2.symm e.symm⟩)
theorem CI.step {w W w3 : World} {S R g BX : Nat} {stop : Int} {v vx : Value} {l x : PL} (h : CI w S R g BX stop v vx l x W) (hw : w.heap.size ≤ BX) (hd : S ≠ BX ∧ R ≠ BX) {p : PL × PL} {e : Ending} (hp : StepPost w W g v p e w3) :
    ∃ v' A c, e = .returned (.tuple #[.slice A p.1.length c, .bool true]) ∧ (w3.cell? ⟨BX, 0, none⟩).isSome = true ∧ w3.frozen? ⟨BX, 0, none⟩ = false ∧ CI w S R g BX stop v' (.slice A p.1.length c) p.2 p.1 (w3.setCell ⟨BX, 0, none⟩ (.slice A p.1.length c)) := by
  obtain ⟨v', vx', he, hB, hf, hv⟩ := hp
  obtain ⟨A, c, rfl⟩ := own_slice hB.o
  have hx := blk_frm_tbl h.both.t.t hf h.bx (by decide) (by decide)
  have hs := blk_frm_tbl h.both.t.t hf h.bs (by decide) (by decide)
  have hr := blk_frm_tbl h.both.t.t hf h.br (by decide) (by decide)
  exact ⟨v', A, c, he, by rw [hx.cell]; rfl, hx.frozen 0, hB.far hx (by decide) (by decide) (by decide) hw _, hs.far (by simpa using hd.1) _, hr.far (by simpa using hd.2) _, by have := hx.set_ 0 (.slice A p.1.length c); simpa using this⟩
/-- A step of another table leaves this one as it is. -/
theorem CI.other {w W w3 : World} {S R g BX : Nat} {stop : Int} {v vx : Value} {l x : PL} (h : CI w S R g BX stop v vx l x W) {g' : Nat} {v' : Value} {l' : PL} (hT : Tblintstring W g' v' l') (hf : Frm [some g', v'.ownBlock] W w3) (hne : g ≠ g') (hv : ∀ b, v.ownBlock = some b → v'.ownBlock ≠ some b) (hg' : w.heap.size ≤ g') (hv0 : ∀ b, v'.ownBlock = some b → w.heap.size ≤ b) : CI w S R g BX stop v vx l x w3 :=
  ⟨⟨⟨h.both.t.t.frmOther hT hf hne hv, h.both.t.b.trans (hf.below h.both.t.b.size fun y hy => by
      simp at hy
      rcases hy with rfl | hy
      · exact hg'
      · exact hv0 _ hy.symm), h.both.t.g0, h.both.t.v0⟩, hf.own h.both.o (h.both.o.ne_ hT), h.both.m, h.both.vx0⟩, blk_frm_tbl hT hf h.bs (by decide) (by decide), blk_frm_tbl hT hf h.br (by decide) (by decide), blk_frm_tbl hT hf h.bx (by decide) (by decide)⟩

theorem prefix_more {pre l : PL} (h : pre.map (·.1) <+: l.map (·.1)) (q : Int × ByteArray) (hlen : pre.length < l.length) : (pre ++ [q]).map (·.1) <+: l.map (·.1) ↔ q.1 = l[pre.length].1 := by
  have hl : (pre.map (·.1)).length < (l.map (·.1)).length := by simpa using hlen
  have he : l[pre.length].1 = (l.map (·.1))[(pre.map (·.1)).length] := by simp
  rw [he, List.map_append, List.map_cons, List.map_nil]
  generalize l.map (·.1) = L at *
  generalize pre.map (·.1) = P at *
  generalize q.1 = r
  clear he
  obtain ⟨t, ht⟩ := h
  constructor
  · rintro ⟨u, hu⟩
    have := List.getElem?_eq_getElem hl
    conv at this => lhs; rw [← hu]
    simp at this
    exact this
  · rintro rfl
    refine ⟨L.drop (P.length + 1), ?_⟩
    rw [List.append_assoc]
    have h1 : P = L.take P.length := by rw [← ht]; simp
    conv => lhs; lhs; rw [h1]
    rw [List.singleton_append, ← List.drop_eq_getElem_cons hl, List.take_append_drop]
structure RI (w : World) (S R g BX gC BK : Nat) (stop : Int) (v vx : Value) (l x : PL) (vD vy : Value) (lC y pre : PL) (W : World) : Prop where
  pf : pre.map (·.1) <+: l.map (·.1)
  ci : CI w S R g BX stop v vx l x W
  bc : Both w W gC vD vy lC y
  k : Blk W BK 3 #[.int .i64 pre.length]
theorem RI.kept {w : World} {S R g BX gC BK : Nat} {stop : Int} {v vx : Value} {l x : PL} {vD vy : Value} {lC y pre : PL} {A B : World} (h : RI w S R g BX gC BK stop v vx l x vD vy lC y pre A) (hk : KpC (fun _ => False) A B) (hb : Below w.heap.size A B) : RI w S R g BX gC BK stop v vx l x vD vy lC y pre B :=
  ⟨h.pf, h.ci.kept hk hb, h.bc.kept hk hb, hk.blk h.k id⟩
theorem RI.below {w : World} {S R g BX gC BK : Nat} {stop : Int} {v vx : Value} {l x : PL} {vD vy : Value} {lC y pre : PL} {A B : World} (h : RI w S R g BX gC BK stop v vx l x vD vy lC y pre A) (hb : Below A.heap.size A B) : RI w S R g BX gC BK stop v vx l x vD vy lC y pre B :=
  ⟨h.pf, h.ci.below hb, h.bc.below hb, h.k.below hb h.k.lt⟩
theorem RI.ownFrom {w : World} {S R g BX gC BK : Nat} {stop : Int} {v vx : Value} {l x : PL} {vD vy : Value} {lC y : PL} {B0 : Nat} (hB : w.heap.size ≤ B0) : OwnFrom B0 (RI w S R g BX gC BK stop v vx l x vD vy lC y) := fun s A B row hs hg hr =>
  hs.kept (kpc_of_grown hg fun r e => (hr r e).2) ((Below.refl _ _).grown hg (hs.ci.both.t.b.size) (fun k e => by have := (hr k e).1; omega))
theorem RI.next {w : World} {S R g BX gC BK : Nat} {stop : Int} {v vx : Value} {l x : PL} {vD vy : Value} {lC y pre : PL} {W : World} (h : RI w S R g BX gC BK stop v vx l x vD vy lC y pre W) (hw : w.heap.size ≤ BK) (hd : S ≠ BK ∧ R ≠ BK ∧ BX ≠ BK) (e : Int × ByteArray) (hx : (pre ++ [e]).map (·.1) <+: l.map (·.1)) (m : Int) (hm : m = pre.length + 1) :
    RI w S R g BX gC BK stop v vx l x vD vy lC y (pre ++ [e]) (W.setCell ⟨BK, 0, none⟩ (.int .i64 m)) := by
  refine ⟨hx, ⟨h.ci.both.far h.k (by decide) (by decide) (by decide) hw _, h.ci.bs.far (by simpa using hd.1) _, h.ci.br.far (by simpa using hd.2.1) _, h.ci.bx.far (by simpa using hd.2.2) _⟩, h.bc.far h.k (by decide) (by decide) (by decide) hw _, ?_⟩
  have := h.k.set_ 0 (.int .i64 m)
  rw [hm] at this ⊢
  simpa using this
/-- What a round of the range does to the world: new blocks, then one store into the counter's block. -/
theorem RI.round {w : World} {S R g BX gC BK : Nat} {stop : Int} {v vx : Value} {l x : PL} {vD vy : Value} {lC y pre : PL} {W W2 : World} {B0 : Nat} (h : RI w S R g BX gC BK stop v vx l x vD vy lC y pre W) (hb : Below W.heap.size W W2) (hw : w.heap.size ≤ BK) (hd : S ≠ BK ∧ R ≠ BK ∧ BX ≠ BK) (e : Int × ByteArray) (hx : (pre ++ [e]).map (·.1) <+: l.map (·.1)) (m : Int) (hm : m = pre.length + 1) :
    KeepsFrom B0 W (W2.setCell ⟨BK, 0, none⟩ (.int .i64 m)) ∧ KpC (fun b => b = BK) W (W2.setCell ⟨BK, 0, none⟩ (.int .i64 m)) ∧ RI w S R g BX gC BK stop v vx l x vD vy lC y (pre ++ [e]) (W2.setCell ⟨BK, 0, none⟩ (.int .i64 m)) := by
  refine ⟨?_, ⟨?_, ?_⟩, (h.below hb).next hw hd e hx m hm⟩
  · refine (⟨hb.size, fun k o _ hk _ => ?_⟩ : KeepsFrom B0 W W2).trans ((KeepsOthers.setCell _ _ _).from _)
    exact (hb.block k (Array.getElem?_eq_some_iff.1 hk).1).trans hk
  · have := hb.size
    simpa [World.setCell] using this
  · intro k c e f hk hc
    exact (Below.heap_setCell W2 ⟨BK, 0, none⟩ _ k hk).trans ((hb.block k (Array.getElem?_eq_some_iff.1 hc).1).trans hc)

set_option maxRecDepth 100000 in
set_option maxHeartbeats 4000000 in
theorem copies_small (A A' : Option Addr) (c c' : Nat) (ops more : List TOp) (stop : Int) (w : World) (hA : IsOps w A ops) (hA' : IsOps w A' more) (hm : ops.length ≤ 9223372036854775807) (hm' : more.length ≤ 9223372036854775807) (hs1 : smallB ops = true) (hs2 : smallB more = true) :
    Calls Try.prog 6 #[.slice A ops.length c, .slice A' more.length c', .int .i64 stop] w fun e w' => e = .returned (.bool true) ∧ Below w.heap.size w w' := by
  have hs1' := hs1
  have hs2' := hs2
  have HS1 := Lib.hid fun w1 (hb : Below w.heap.size w w1) => small_any A c ops w1 (hA.below hb) hm
  have HS2 := Lib.hid fun w1 (hb : Below w.heap.size w w1) => small_any A' c' more w1 (hA'.below hb) hm'
  rw [hs1] at HS1
  rw [hs2] at HS2
  have hl1 := smallB_len hs1
  have hl2 := smallB_len hs2
  have HA := Lib.hid hA; have HA' := Lib.hid hA'
  clear hs1 hs2 hs1' hs2' hA hA'
  have HB0 : Hid (Below w.heap.size w ((w.alloc (.cells #[.int .i64 stop] 3)).alloc (.cells #[.bool false] 4))) := ((Below.refl _ _).alloc (Nat.le_refl _) _).alloc (by simp) _
  have HBX : Hid (Blk ((w.alloc (.cells #[.int .i64 stop] 3)).alloc (.cells #[.bool false] 4)) w.heap.size 3 #[.int .i64 stop] ∧ Blk ((w.alloc (.cells #[.int .i64 stop] 3)).alloc (.cells #[.bool false] 4)) (w.heap.size + 1) 4 #[.bool false]) :=
    ⟨(Blk.new w _ _).alloc _, by have := Blk.new (w.alloc (.cells #[.int .i64 stop] 3)) 4 #[.bool false]; simpa using this⟩
  refine (callsIn_wide (n := 6)).1 ?_
  refine callsIn_of_wp_marks Try.func6 rfl trivial ?_ rfl
  simp only [Try.ntmps6, List.size_toArray, List.length_cons, List.length_nil, Nat.reduceAdd, Nat.reduceSub, Array.replicate_succ, Array.replicate_zero, List.push_toArray, List.append_toArray, List.nil_append, List.cons_append]
  refine wpIn_wide.2 ?_
  go_wp2_with fail
  refine (HS1.out _ HB0.out).mono ?_
  rintro e w0 ⟨rfl, hb0⟩
  go_wp2_with fail
  refine (HS2.out _ (HB0.out.trans (hb0.mono HB0.out.size))).mono ?_
  rintro e w1 ⟨rfl, hb1⟩
  go_wp2_with (go_at_call 7; refine (awake_true _).mono ?_; rintro e w2 ⟨rfl, hb2⟩)
  have hb02 : Below ((w.alloc (.cells #[.int .i64 stop] 3)).alloc (.cells #[.bool false] 4)).heap.size ((w.alloc (.cells #[.int .i64 stop] 3)).alloc (.cells #[.bool false] 4)) w2 := (hb0.trans (hb1.mono hb0.size)).trans (hb2.mono (Nat.le_trans hb0.size hb1.size))
  have hz2 := hb02.size
  have hz0 : ((w.alloc (.cells #[.int .i64 stop] 3)).alloc (.cells #[.bool false] 4)).heap.size = w.heap.size + 2 := by simp
  have hb24 : Below w2.heap.size w2 ((w2.alloc (.cells #[.slice none 0 0] 35)).alloc (.cells #[.slice none 0 0] 36)) := ((Below.refl _ _).alloc (Nat.le_refl _) _).alloc (by simp) _
  have hI : CI w w.heap.size (w.heap.size + 1) w2.heap.size (w2.heap.size + 1) stop (.slice none 0 0) (.slice none 0 0) [] [] ((w2.alloc (.cells #[.slice none 0 0] 35)).alloc (.cells #[.slice none 0 0] 36)) :=
    ⟨⟨⟨⟨(Blk.new w2 _ _).alloc _, World.ownsRow_nil _ _ _ _⟩, (HB0.out.trans (hb02.mono HB0.out.size)).trans (hb24.mono (by omega)), by omega, by simp [Value.ownBlock]⟩, World.ownsRow_nil _ _ _ _, Mtch.nil, by simp [Value.ownBlock]⟩,
      ((HBX.out.1.below hb02 HBX.out.1.lt).below hb24 (by omega)), ((HBX.out.2.below hb02 HBX.out.2.lt).below hb24 (by omega)), by have := Blk.new (w2.alloc (.cells #[.slice none 0 0] 35)) 36 #[.slice none 0 0]; simpa using this⟩
  have HI := Lib.hid hI
  clear hI hb02 hb24 hb0 hb1 hb2 HB0 HBX HS1 HS2
  obtain ⟨S, hS⟩ : ∃ S, S = w.heap.size := ⟨_, rfl⟩
  obtain ⟨R, hR⟩ : ∃ R, R = w.heap.size + 1 := ⟨_, rfl⟩
  obtain ⟨gT, hgT⟩ : ∃ gT, gT = w2.heap.size := ⟨_, rfl⟩
  obtain ⟨BX, hBX⟩ : ∃ BX, BX = w2.heap.size + 1 := ⟨_, rfl⟩
  obtain ⟨W4, hW4⟩ : ∃ W4, W4 = (w2.alloc (.cells #[.slice none 0 0] 35)).alloc (.cells #[.slice none 0 0] 36) := ⟨_, rfl⟩
  rw [← hW4, ← hBX, ← hgT, ← hR, ← hS] at HI
  rw [← hW4, ← hBX, ← hgT, ← hR, ← hS]
  have hwX : w.heap.size ≤ BX := by omega
  have hdX : S ≠ BX ∧ R ≠ BX := ⟨by omega, by omega⟩
  have hdR : w.heap.size ≤ S ∧ w.heap.size ≤ R ∧ S ≠ R ∧ w.heap.size ≤ gT := ⟨by omega, by omega, by omega, by omega⟩
  have HSS := Lib.hid hS
  clear hS hR hgT hBX hW4 hz0 hz2 w2
  go_loopw [35] (fun i wr => ∃ (k : Nat) (v vx : Value) (l x : PL), k ≤ ops.length ∧ i = .int .i64 k ∧ CI w S R gT BX stop v vx l x wr ∧ l.length ≤ k ∧ x.length ≤ k) (fun i _ => ops.length - (intOf i).toNat)
  case atStart => exact ⟨0, _, _, [], [], by omega, rfl, HI.out, by simp, by simp⟩
  case round =>
    obtain ⟨k, v, vx, l, x, hk, rfl, hC, hll, hxl⟩ := hrel
    by_cases hlt : k < ops.length
    · obtain ⟨b, o, rfl, hbl, h0, h1, h2⟩ := (IsOps.below HA.out (hC.both.t.b.mono (Nat.le_refl _))) k hlt
      have hbW : Below wr.heap.size wr (wr.alloc (opBox ops[k])) := (Below.refl _ _).alloc (Nat.le_refl _) _
      have hC2 := hC.below hbW
      have cX := hC2.bx.cell 0
      simp only [List.getElem?_toArray, List.getElem?_cons_zero] at cX
      have hlen := rstep_len x l ops[k]
      have hst := step_any w gT v vx l x ops[k] (wr.alloc (opBox ops[k])) hC2.both (by omega) (by omega)
      have hnx := fun e w3 (hp : StepPost w (wr.alloc (opBox ops[k])) gT v (rstep x l ops[k]) e w3) => hC2.step hwX hdX hp
      have HST := Lib.hid hst; have HNX := Lib.hid hnx
      obtain ⟨Ax, cx, rfl⟩ := own_slice hC.both.o
      have hbXl := hC.bx.lt
      clear hst hnx hC hC2 hbW
      generalize rstep x l ops[k] = p at *
      obtain ⟨x', l'⟩ := p
      generalize ops[k] = q at *
      obtain ⟨q0, q1, q2⟩ := q
      simp only at h0 h1 h2 hlen HST HNX cX
      go_wp2_with (go_at_call 17; refine HST.out.mono ?_; intro e w3 hp; obtain ⟨v', A1, c1, rfl, d1, d2, hC3⟩ := HNX.out _ _ hp; obtain ⟨d0, d1⟩ := Option.isSome_iff_exists.1 d1; have HC3 := Lib.hid hC3; clear hC3 hp)
      go_roundw
      case rel => exact ⟨k + 1, v', _, l', x', by omega, by go_num, HC3.out, by omega, by omega⟩
      case measure => simp [intOf]; omega
    · have hL : l.length ≤ 100 ∧ x.length ≤ 100 := ⟨by omega, by omega⟩
      clear hk HI
      go_wp2_with fail
      refine (tcopy_intstring gT v l wr hC.both.t.t (by omega)).mono ?_
      rintro e w1 ⟨gC, vC, rfl, hTC, hbC, hgC, hvC⟩
      have hz := hC.both.t.b.size
      have hdj : ∀ b, v.ownBlock = some b → vC.ownBlock ≠ some b := fun b hb he => by
        have := (hC.both.t.t.own.lt b hb).2
        have := hvC b he
        omega
      have hgne : gT ≠ gC := by have := hC.both.t.t.blk.lt; omega
      have hC1 := hC.below hbC
      have hBC : Both w w1 gC vC vx l x := ⟨⟨hTC, hC1.both.t.b, by omega, fun b hb => by have := hvC b hb; omega⟩, hC1.both.o, hC1.both.m, hC1.both.vx0⟩
      have hgC0 : w.heap.size ≤ gC := by omega
      clear hC hbC hgC hvC hTC hz
      clear wr
      obtain ⟨Ax, cx, rfl⟩ := own_slice hC1.both.o
      have cX := hC1.bx.cell 0
      simp only [List.getElem?_toArray, List.getElem?_cons_zero] at cX
      have HC1 := Lib.hid hC1; have HBC := Lib.hid hBC
      clear hC1 hBC
      have HDJ := Lib.hid hdj; clear hdj
      go_wp2_with fail
      go_loopw [12, 54] (fun y i wr => ∃ (k : Nat) (vC : Value) (lC y' : PL), k ≤ more.length ∧ i = .int .i64 k ∧ CI w S R gT BX stop v (.slice Ax x.length cx) l x wr ∧ Both w wr gC vC y lC y' ∧ (∀ b, v.ownBlock = some b → vC.ownBlock ≠ some b) ∧ lC.length ≤ l.length + k ∧ y'.length ≤ x.length + k) (fun _ i _ => more.length - (intOf i).toNat)
      case atStart => exact ⟨0, vC, l, x, by omega, rfl, HC1.out, HBC.out, HDJ.out, by omega, by omega⟩
      case round =>
        obtain ⟨k, vD, lC, y, hk, rfl, hC, hB, hdj, hll', hyl⟩ := hrel
        by_cases hlt : k < more.length
        · obtain ⟨b, o, rfl, hbl, h0, h1, h2⟩ := (IsOps.below HA'.out (hC.both.t.b.mono (Nat.le_refl _))) k hlt
          have hbW : Below wr.heap.size wr (wr.alloc (opBox more[k])) := (Below.refl _ _).alloc (Nat.le_refl _) _
          have hC2 := hC.below hbW
          have hB2 := hB.below hbW
          have hlen := rstep_len y lC more[k]
          have hst := step_any w gC vD _ lC y more[k] (wr.alloc (opBox more[k])) hB2 (by omega) (by omega)
          have hnx : ∀ e w3, StepPost w (wr.alloc (opBox more[k])) gC vD (rstep y lC more[k]) e w3 → ∃ v' A c, e = .returned (.tuple #[.slice A (rstep y lC more[k]).1.length c, .bool true]) ∧ CI w S R gT BX stop v (.slice Ax x.length cx) l x w3 ∧ Both w w3 gC v' (.slice A (rstep y lC more[k]).1.length c) (rstep y lC more[k]).2 (rstep y lC more[k]).1 ∧ (∀ b, v.ownBlock = some b → v'.ownBlock ≠ some b) := fun e w3 hp => by
            obtain ⟨v', vx', he, hB3, hf, hv⟩ := hp
            obtain ⟨A, c, rfl⟩ := own_slice hB3.o
            refine ⟨v', A, c, he, hC2.other hB2.t.t hf hgne hdj hgC0 hB2.t.v0, hB3, fun b hb he => ?_⟩
            rcases hv with h | h
            · exact hdj b hb (by rw [← h]; exact he)
            · have := h b he
              have := (hC2.both.t.t.own.lt b hb).2
              omega
          have HST := Lib.hid hst; have HNX := Lib.hid hnx
          obtain ⟨Ay, cy, rfl⟩ := own_slice hB.o
          clear hst hnx hC hC2 hB hB2 hbW hdj
          generalize rstep y lC more[k] = p at *
          obtain ⟨y', l'⟩ := p
          generalize more[k] = q at *
          obtain ⟨q0, q1, q2⟩ := q
          simp only at h0 h1 h2 hlen HST HNX
          go_wp2_with (go_at_call 17; refine HST.out.mono ?_; intro e w3 hp; obtain ⟨v', A1, c1, rfl, hC3, hB3, hdj⟩ := HNX.out _ _ hp; have HC3 := Lib.hid hC3; have HB3 := Lib.hid hB3; have HD3 := Lib.hid hdj; clear hC3 hB3 hdj hp)
          go_roundw
          case rel => exact ⟨k + 1, v', l', y', by omega, by go_num, HC3.out, HB3.out, HD3.out, by omega, by omega⟩
          case measure => simp [intOf]; omega
        · have hL3 : lC.length ≤ 200 ∧ y.length ≤ 200 := ⟨by omega, by omega⟩
          obtain ⟨Ay, cy, rfl⟩ := own_slice hB.o
          have HC3 := Lib.hid hC; have HB3 := Lib.hid hB; have HD3 := Lib.hid hdj
          clear hk hC hB hdj HDJ HC1 HBC cX hll' hyl
          go_wp2_with fail
          refine (tcopy_intstring gT v l _ (HC3.out.both.t.t.below ((Below.refl _ _).alloc (Nat.le_refl _) _)) (by omega)).mono ?_
          rintro e w4 ⟨gD, vD', rfl, hTD, hbD, hgD, hvD⟩
          go_wp2_with fail
          refine (all_any _ _).mono ?_
          rintro e w5 ⟨rfl, rfl⟩
          go_wp2_with fail
          obtain ⟨BK, hBK⟩ : ∃ BK, BK = wr.heap.size := ⟨_, rfl⟩
          obtain ⟨BN, hBN⟩ : ∃ BN, BN = w4.heap.size := ⟨_, rfl⟩
          obtain ⟨W5, hW5⟩ : ∃ W5, W5 = w4.alloc (.cells #[.pointer (some ⟨gD, 0, none⟩)] 32) := ⟨_, rfl⟩
          have hz3 : (wr.alloc (.cells #[.int .i64 0] 3)).heap.size = wr.heap.size + 1 := by simp
          have hzD := hbD.size
          have hz0 := HC3.out.both.t.b.size
          have hbrW : Below wr.heap.size wr W5 := by
            rw [hW5]
            exact (((Below.refl _ _).alloc (Nat.le_refl _) _).trans (hbD.mono (by omega))).alloc (by omega) _
          have hb45 : Below w4.heap.size w4 W5 := by rw [hW5]; exact (Below.refl _ _).alloc (Nat.le_refl _) _
          have hX5 : Blk W5 BN 32 #[.pointer (some ⟨gD, 0, none⟩)] := by rw [hW5, hBN]; exact Blk.new w4 _ _
          have hK5 : Blk W5 BK 3 #[.int .i64 0] := by
            have h1 := Blk.new wr 3 #[.int .i64 0]
            have h2 := h1.below hbD h1.lt
            rw [hBK]
            exact h2.below hb45 h2.lt
          have hR0 : RI w S R gT BX gC BK stop v (.slice Ax x.length cx) l x vD (.slice Ay y.length cy) lC y [] W5 :=
            ⟨List.nil_prefix, HC3.out.below hbrW, HB3.out.below hbrW, hK5⟩
          have hwK : w.heap.size ≤ BK := by omega
          have hdK : S ≠ BK ∧ R ≠ BK ∧ BX ≠ BK := by
            have h1 := HC3.out.bs.lt
            have h2 := HC3.out.br.lt
            have h3 := HC3.out.bx.lt
            exact ⟨by omega, by omega, by omega⟩
          have hT5 := hTD.below hb45
          have hseq := all1_stops 5 (by omega) BN gD vD' l W5 hX5 hT5 (by omega) (fun b => b = BK) (fun b hb => by have := hK5.lt; omega)
          have hw5 : w.heap.size ≤ W5.heap.size := by have := hK5.lt; omega
          rw [← hW5, ← hBK, ← hBN]
          clear hW5 hBK hBN hX5 hT5 hTD hbD hgD hvD hb45 hbrW hK5 hz3 hzD hz0 HC3 HB3 HD3
          clear w4 wr
          have hMx := hR0.ci.both.m
          refine (wpIn_wide (n := 6)).1 ?_
          refine wpIn_rangeFunc_ownG rfl (by omega) (gf := 35) (lb := #[.pointer (some ⟨BN, 0, none⟩)]) rfl trivial (enters_of Try.func35 (by kernel_rfl) rfl) hseq KpC.trans (fun W l o o' _ h ho _ => KpC.putObj W l o o' h ho) (Below.refl _ _) (fun _ => rfl)
            (RI w S R gT BX gC BK stop v (.slice Ax x.length cx) l x vD (.slice Ay y.length cy) lC y)
            (fun c pre W => (c = .exit 4 ∧ RI w S R gT BX gC BK stop v (.slice Ax x.length cx) l x vD (.slice Ay y.length cy) lC y pre W ∧ (pre.length : Int) = stop) ∨ ¬ (pre.map (·.1) <+: l.map (·.1))) (RI.ownFrom hw5) (fun c s A B row hs hg hr => hs.imp (fun h => ⟨h.1, RI.ownFrom hw5 s A B row h.2.1 hg hr, h.2.2⟩) id) hR0 ?a1 ?assign ?body ?done ?stop
          case assign =>
            intro lp x W K hK
            gi_wp2
            exact hK
          case body =>
            rename_i Q1 w1' K4 k0 hlt0 Q2 K3 a2 K2 Q3 K1 a1 K0 a0
            clear a0 K0 a1 K1 Q3 K2 a2 K3 Q2 hlt0 hll hxl K4 Q1 hlt HA HA' hm hm' hl1 hl2 HSS
            rintro lp pre q W hI hlen
            have hmx : Try.prog.follows .mixedOrders = true := by kernel_rfl
            have cN := hI.k.cell 0
            have fN := hI.k.frozen 0
            have cX := hI.ci.bx.cell 0
            have cS := hI.ci.bs.cell 0
            have cR := hI.ci.br.cell 0
            have fR := hI.ci.br.frozen 0
            simp only [List.getElem?_toArray, List.getElem?_cons_zero] at cN cX cS cR
            have hpre := prefix_more hI.pf q hlen
            have hxl : x.length = l.length := hMx.len
            have hsort := fun w1 (hb : Below W.heap.size W w1) => rsorted_any (.slice Ax x.length cx) x w1 (hI.ci.both.below hb).o (by omega)
            rw [hMx.sorted] at hsort
            have hfact : ∀ w1, Below W.heap.size W w1 → w1.cell? ⟨BK, 0, none⟩ = some (.int .i64 pre.length) ∧ w1.frozen? ⟨BK, 0, none⟩ = false ∧ w1.cell? ⟨S, 0, none⟩ = some (.int .i64 stop) ∧ w1.cell? ⟨R, 0, none⟩ = some (.bool false) ∧ w1.frozen? ⟨R, 0, none⟩ = false ∧ w1.cell? ⟨BX, 0, none⟩ = some (.slice Ax x.length cx) := fun w1 hb => by
              have h1 := hI.below hb
              have a1 := h1.k.cell 0
              have a2 := h1.ci.bs.cell 0
              have a3 := h1.ci.br.cell 0
              have a4 := h1.ci.bx.cell 0
              simp only [List.getElem?_toArray, List.getElem?_cons_zero] at a1 a2 a3 a4
              exact ⟨a1, h1.k.frozen 0, a2, a3, h1.ci.br.frozen 0, a4⟩
            have hrow : ∀ w1 (vs : Value), OwnP w1 vs l → ∃ r c, vs = .slice (some ⟨r, 0, none⟩) l.length c ∧ w1.cell? ⟨r, pre.length * 2, none⟩ = some (.int .i64 l[pre.length].1) := fun w1 vs ho => by
              obtain ⟨A, c, rfl⟩ := own_slice ho
              obtain ⟨r, hAs, hrl, h0, h1⟩ := own_cells2 ho pre.length hlen
              subst hAs
              exact ⟨r, c, rfl, by simpa using h0⟩
            have hround : ∀ W2, Below W.heap.size W W2 → q.1 = l[pre.length].1 → ∀ m : Int, m = pre.length + 1 → KeepsFrom W5.heap.size W (W2.setCell ⟨BK, 0, none⟩ (.int .i64 m)) ∧ KpC (fun b => b = BK) W (W2.setCell ⟨BK, 0, none⟩ (.int .i64 m)) ∧ RI w S R gT BX gC BK stop v (.slice Ax x.length cx) l x vD (.slice Ay y.length cy) lC y (pre ++ [q]) (W2.setCell ⟨BK, 0, none⟩ (.int .i64 m)) := fun W2 hb he m hm => hI.round hb hwK hdK q (hpre.2 he) m hm
            have hstop : ∀ W2, Below W.heap.size W W2 → q.1 ≠ l[pre.length].1 → ∀ u, KeepsFrom W5.heap.size W (W2.setCell ⟨R, 0, none⟩ u) ∧ ¬ ((pre ++ [q]).map (·.1) <+: l.map (·.1)) := fun W2 hb he u =>
              ⟨(⟨hb.size, fun k o _ hk _ => (hb.block k (Array.getElem?_eq_some_iff.1 hk).1).trans hk⟩ : KeepsFrom W5.heap.size W W2).trans ((KeepsOthers.setCell _ _ _).from _), fun h => he (hpre.1 h)⟩
            have hn1 : (pre.length : Int) < (x.length : Int) := by omega
            have hw1 : IntKind.i64.wrap ((pre.length : Int) + 1) = (pre.length : Int) + 1 := by rw [IntKind.wrap_i64]; omega
            have HSO := Lib.hid hsort; have HF := Lib.hid hfact; have HR := Lib.hid hrow; have HRD := Lib.hid hround; have HST := Lib.hid hstop
            have hSK := hdK.1
            have hSB : ¬ S = BK := hdK.1
            clear hsort hfact hrow hround hstop hpre hseq hR0 hMx hI hxl hwX hdX hdR hL hgne hgC0 hL3 hwK hdK hw5
            generalize l[pre.length].1 = key at *
            obtain ⟨q1, q2⟩ := q
            simp only at HRD HST
            have hn2 : ¬ x.length ≤ pre.length := by omega
            have hn3 : ¬ (x.length : Int) ≤ (pre.length : Int) := by omega
            gi_wp2_with fail
            refine region_round (fun w' => w'.cell? ⟨BK, 0, none⟩ = some (.int .i64 pre.length) ∧ w'.cell? ⟨BX, 0, none⟩ = some (.slice Ax x.length cx)) hmx (by simp) (fun ⟨_, _, h⟩ => h) ?_
            have hS0 : (W.drew.cell? ⟨BK, 0, none⟩ = some (.int .i64 pre.length) ∧ W.drew.cell? ⟨BX, 0, none⟩ = some (.slice Ax x.length cx)) := ⟨cN, cX⟩
            refine take_slot 0 (.int .i64 (pre.length : Int)) (some 73) rfl rfl (by kernel_rfl) (by kernel_rfl) (by kernel_rfl) (fun _ _ _ h => h) (by rfl) ?_ hS0 ?_
            · (intro w' hw'; obtain ⟨s1, s2⟩ := hw'; go_simp)
            try simp only [Act.put, List.setIfInBounds_toArray, List.set_cons_zero, List.set_cons_succ]
            refine take_slot 1 (.slice Ax x.length cx) (some 74) rfl rfl (by kernel_rfl) (by kernel_rfl) (by kernel_rfl) (fun _ _ _ h => h) (by rfl) ?_ hS0 ?_
            · (intro w' hw'; obtain ⟨s1, s2⟩ := hw'; go_simp)
            try simp only [Act.put, List.setIfInBounds_toArray, List.set_cons_zero, List.set_cons_succ]
            refine take_slot 2 (.int .i64 (x.length : Int)) (some 75) rfl rfl (by kernel_rfl) (by kernel_rfl) (by kernel_rfl) (fun _ _ _ h => h) (by rfl) ?_ hS0 ?_
            · (intro w' hw'; obtain ⟨s1, s2⟩ := hw'; go_simp)
            try simp only [Act.put, List.setIfInBounds_toArray, List.set_cons_zero, List.set_cons_succ]
            refine take_slot 3 (.bool false) (some 76) rfl rfl (by kernel_rfl) (by kernel_rfl) (by kernel_rfl) (fun _ _ _ h => h) (by rfl) ?_ hS0 ?_
            · (intro w' hw'; obtain ⟨s1, s2⟩ := hw'; go_simp)
            try simp only [Act.put, List.setIfInBounds_toArray, List.set_cons_zero, List.set_cons_succ]
            refine take_slot 4 (.bool false) (some 77) rfl rfl (by kernel_rfl) (by kernel_rfl) (by kernel_rfl) (fun _ _ _ h => h) (by rfl) ?_ hS0 ?_
            · (intro w' hw'; obtain ⟨s1, s2⟩ := hw'; go_simp)
            try simp only [Act.put, List.setIfInBounds_toArray, List.set_cons_zero, List.set_cons_succ]
            refine take_slot 5 (.int .i64 q1) (some 78) rfl rfl (by kernel_rfl) (by kernel_rfl) (by kernel_rfl) (fun _ _ _ h => h) (by rfl) ?_ hS0 ?_
            · (intro w' hw'; obtain ⟨s1, s2⟩ := hw'; go_simp)
            try simp only [Act.put, List.setIfInBounds_toArray, List.set_cons_zero, List.set_cons_succ]
            refine take_slot 6 (.slice Ax x.length cx) (some 79) rfl rfl (by kernel_rfl) (by kernel_rfl) (by kernel_rfl) (fun _ _ _ h => h) (by rfl) ?_ hS0 ?_
            · (intro w' hw'; obtain ⟨s1, s2⟩ := hw'; go_simp)
            try simp only [Act.put, List.setIfInBounds_toArray, List.set_cons_zero, List.set_cons_succ]
            refine take_slot 8 (.int .i64 (pre.length : Int)) (some 81) rfl rfl (by kernel_rfl) (by kernel_rfl) (by kernel_rfl) (fun _ _ _ h => h) (by rfl) ?_ hS0 ?_
            · (intro w' hw'; obtain ⟨s1, s2⟩ := hw'; go_simp)
            try simp only [Act.put, List.setIfInBounds_toArray, List.set_cons_zero, List.set_cons_succ]
            refine call_slot 7 (some 80) 14 #[.slice Ax x.length cx] (fun v w1 => Below W.heap.size W w1 ∧ ∃ r c, v = .slice (some ⟨r, 0, none⟩) l.length c ∧ w1.cell? ⟨r, pre.length * 2, none⟩ = some (.int .i64 key)) rfl rfl (by kernel_rfl) (by rfl) (by go_simp) ?_ ?_
            · refine (HSO.out (World.drew W) ⟨rfl, rfl, rfl, Nat.le_refl _, fun _ _ => rfl⟩).mono ?_
              rintro e w1 ⟨vs, rfl, hos, hbs', hvs⟩
              exact ⟨_, rfl, ⟨hbs'.os, hbs'.tape, hbs'.output, hbs'.size, hbs'.block⟩, HR.out _ _ hos⟩
            rintro vs w1 ⟨hbs, r, cs, rfl, cr⟩
            obtain ⟨d1, d2, d3, d4, d5, dX⟩ := HF.out _ hbs
            refine ⟨⟨d1, dX⟩, ?_⟩
            have hS1 : (w1.cell? ⟨BK, 0, none⟩ = some (.int .i64 pre.length) ∧ w1.cell? ⟨BX, 0, none⟩ = some (.slice Ax x.length cx)) := ⟨d1, dX⟩
            try simp only [Act.put, List.setIfInBounds_toArray, List.set_cons_zero, List.set_cons_succ]
            refine take_slot 9 (.pointer (some ⟨r, pre.length * 2, none⟩)) (some 82) rfl rfl (by kernel_rfl) (by kernel_rfl) (by kernel_rfl) (fun _ _ _ h => h) (by rfl) ?_ hS1 ?_
            · (intro w' hw'; obtain ⟨s1, s2⟩ := hw'; go_simp)
            try simp only [Act.put, List.setIfInBounds_toArray, List.set_cons_zero, List.set_cons_succ]
            refine take_slot 10 (.pointer (some ⟨r, pre.length * 2, none⟩)) (some 83) rfl rfl (by kernel_rfl) (by kernel_rfl) (by kernel_rfl) (fun _ _ _ h => h) (by rfl) ?_ hS1 ?_
            · (intro w' hw'; obtain ⟨s1, s2⟩ := hw'; go_simp)
            try simp only [Act.put, List.setIfInBounds_toArray, List.set_cons_zero, List.set_cons_succ]
            refine one_slot 11 (.int .i64 key) (some 84) rfl rfl (by kernel_rfl) (by rfl) (by go_simp) hS1 ?_
            try simp only [Act.put, List.setIfInBounds_toArray, List.set_cons_zero, List.set_cons_succ]
            refine take_slot 12 (.bool (q1 != key)) (some 85) rfl rfl (by kernel_rfl) (by kernel_rfl) (by kernel_rfl) (fun _ _ _ h => h) (by rfl) ?_ hS1 ?_
            · (intro w' hw'; obtain ⟨s1, s2⟩ := hw'; go_simp)
            try simp only [Act.put, List.setIfInBounds_toArray, List.set_cons_zero, List.set_cons_succ]
            refine take_slot 13 (.bool (q1 != key)) (some 86) rfl rfl (by kernel_rfl) (by kernel_rfl) (by kernel_rfl) (fun _ _ _ h => h) (by rfl) ?_ hS1 ?_
            · (intro w' hw'; obtain ⟨s1, s2⟩ := hw'; go_simp)
            try simp only [Act.put, List.setIfInBounds_toArray, List.set_cons_zero, List.set_cons_succ]
            refine wpAnyH_done (by kernel_rfl) ?_ _
            have HBS := Lib.hid hbs
            clear hbs hS0 hS1 cN fN cX cS cR fR HF HR HSO
            by_cases hq : q1 = key
            · have hqb : (q1 != key) = false := by simpa using hq
              by_cases hst : (pre.length : Int) + 1 = stop
              · subst hst
                gi_wp2
                obtain ⟨h1, h2, h3⟩ := HRD.out _ HBS.out hq _ rfl
                exact ⟨h1, .inl ⟨rfl, h3, by simp⟩⟩
              · have hstb : ((pre.length : Int) + 1 == stop) = false := by simpa using hst
                gi_wp2
                exact HRD.out _ HBS.out hq _ rfl
            · have hqb : (q1 != key) = true := by simpa using hq
              gi_wp2
              obtain ⟨h1, h2⟩ := HST.out _ HBS.out hq (.bool false)
              exact ⟨h1, .inr h2⟩
          case' done =>
            rintro D pre W hD hys hI hK
            have hcond : ((pre.length : Int) == (x.length : Int)) = true ∨ ((pre.length : Int) == (x.length : Int)) = false ∧ ((pre.length : Int) == stop) = true := .inl (by rw [hys, hMx.len]; simp)
            clear hys
          case' stop =>
            rintro D c pre W hD hp hx hK
            rcases hx with ⟨rfl, hI, hst⟩ | hx
            rotate_left
            · exact absurd (hp.map _) hx
            have hcond : ((pre.length : Int) == (x.length : Int)) = true ∨ ((pre.length : Int) == (x.length : Int)) = false ∧ ((pre.length : Int) == stop) = true := by
              rw [hst]
              cases h : (stop == (x.length : Int)) <;> simp
            clear hst hp
            refine wpIn_exit ?_
          all_goals (
            have HK := Lib.hid hK
            have HI := Lib.hid hI
            have cN := hI.k.cell 0
            have cX := hI.ci.bx.cell 0
            have cS := hI.ci.bs.cell 0
            simp only [List.getElem?_toArray, List.getElem?_cons_zero] at cN cX cS
            have hDW : D < W.heap.size := (Array.getElem?_eq_some_iff.1 hK).1
            clear hK hI hseq hR0)
          all_goals (
            rcases hcond with hln | ⟨hln, hls⟩ <;> (
              go_wp2_with fail
              refine (same_true w gT v _ l x W HI.out.ci.both (by omega) (by omega)).mono ?_
              rintro e w6 ⟨rfl, hb6⟩
              go_wp2_with fail
              refine (same_true w gC vD _ lC y w6 (HI.out.bc.below hb6) (by omega) (by omega)).mono ?_
              rintro e w7 ⟨rfl, hb7⟩
              go_wp2_with (go_at_call 7; refine (awake_true _).mono ?_; rintro e w8 ⟨rfl, hb8⟩; have hbW8 := (hb6.trans (hb7.mono hb6.size)).trans (hb8.mono (Nat.le_trans hb6.size hb7.size)); obtain ⟨cR, fR⟩ : w8.cell? ⟨R, 0, none⟩ = some (.bool false) ∧ w8.frozen? ⟨R, 0, none⟩ = false := by (have h1 := (HI.out.below hbW8).ci.br; have h2 := h1.cell 0; simp only [List.getElem?_toArray, List.getElem?_cons_zero] at h2; exact ⟨h2, h1.frozen 0⟩))
              have hK' := (KeepsOthers.setCell w8 ⟨R, 0, none⟩ (.bool true)).same D _ ((hbW8.block D hDW).trans HK.out) rfl
              refine ⟨by simp, .inl ⟨_, _, rfl, run_takeDeferred hK', ?_⟩⟩
              have hc5 := cell_kept (World.cell?_setCell_same' w8 ⟨R, 0, none⟩ (.bool true) (by rw [cR]; rfl)) (grownBy_putObj' _ D (.deferred none)) (fun r e => by cases e; exact ⟨_, hK', rfl⟩)
              refine ⟨.bool true, ?_, rfl, ((HI.out.ci.both.t.b.trans (hbW8.mono HI.out.ci.both.t.b.size)).setCell (p := ⟨R, 0, none⟩) hdR.2.1 _).trans (belowK_b (w := w) (Nat.le_refl _) _ D _ _ (by omega) hK' rfl rfl)⟩
              simp [results, Try.f6, go_sem, hc5]))

theorem copies_walk (A A' : Option Addr) (c c' : Nat) (ops more : List TOp) (stop : Int) (w : World) (hA : IsOps w A ops) (hA' : IsOps w A' more) (hm : ops.length ≤ 9223372036854775807) (hm' : more.length ≤ 9223372036854775807) :
    Calls Try.prog 6 #[.slice A ops.length c, .slice A' more.length c', .int .i64 stop] w fun e w' => e = .returned (.bool true) ∧ Below w.heap.size w w' := by
  cases hs1 : smallB ops with
  | false => exact copies_big A A' c c' ops more stop w hA hA' hm hm' (.inl hs1)
  | true =>
    cases hs2 : smallB more with
    | false => exact copies_big A A' c c' ops more stop w hA hA' hm hm' (.inr hs2)
    | true => exact copies_small A A' c c' ops more stop w hA hA' hm hm' hs1 hs2

end Go.Proofs.Ytfoaalfkjknklaa
