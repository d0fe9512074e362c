/- Arguments of the laws opened: desks. -/
import Derived.Test.YtogefmkplkddoaaDskM
import Derived.Deep.Matrix
namespace Go.Proofs.Ytogefmkplkddoaa
open Go.ChangeShapes Go.WideShapes Go.ChangeAt Go.RowKit

theorem picsCells : Try.prog.cellsOf 45 = 1 := by kernel_rfl
theorem deskCells : Try.prog.cellsOf 47 = 2 := by kernel_rfl
/-- A slice of pictures that came in. -/
theorem open_pics {H : Type} {enc : TypeId × Value → H} {W : World} {fuel : Nat} {cs : List Value} {x : DataW H × List MemPlace}
    (hf : DataW.trod enc Try.prog W 0 (fun _ => true) true fuel 45 cs = some x) : ∃ A c ps, cs = [.slice A ps.length c] ∧ PsRdA W A ps ∧ psLen ps := by
  rcases Go.Deep.open_slice1 Try.underlying45 picCells hf with ⟨hcs, _⟩ | ⟨a, len, cap, m, n, V, D, Pl, hcs, _, hl, hm, hmm, _, hx⟩
  · exact ⟨none, 0, [], hcs, fun h => absurd h (by simp), by simp [psLen]⟩
  · simp only [if_true] at hmm
    have each : ∀ r, r < len → ∃ y : Option Addr × Nat × List ByteArray, V r = .slice y.1 y.2.2.length y.2.1 ∧ RdA W y.1 (strs y.2.2) ∧ y.2.2.length ≤ maxLen ∧ ∀ s ∈ y.2.2, s.size ≤ maxLen := by
      intro r hr
      obtain ⟨y0, n', _, _, h1⟩ := trod_struct1 Try.underlying38 (hx r (by omega)).2
      rw [strsCells] at h1
      obtain ⟨A, c, rows, hcs', hA, hn, hz⟩ := open_strs h1
      simp at hcs'
      exact ⟨(A, c, rows), hcs', hA, hn, hz⟩
    obtain ⟨y, hy⟩ := Go.Deep.choose_lt each
    have hlen : ((List.range len).map fun r => (y r).2.2).length = len := by simp
    refine ⟨some a, cap, (List.range len).map fun r => (y r).2.2, by rw [hlen]; exact hcs, fun h => ⟨a, rfl, ?_, fun i hi => ?_⟩, by rw [hlen]; omega, fun p hp => ?_⟩
    · rw [hlen] at h
      have := World.block_lt_of_cell? W _ (hx 0 (by omega)).1
      rwa [Addr.add_block'] at this
    · have hi' : i < len := by rw [hlen] at hi; exact hi
      obtain ⟨h0, h1, _, _⟩ := hy i hi'
      have e : ((List.range len).map fun r => (y r).2.2)[i] = (y i).2.2 := by simp
      rw [e]
      exact ⟨(y i).1, (y i).2.1, by rw [← h0]; exact (hx i (by omega)).1, h1⟩
    · obtain ⟨i, hi, rfl⟩ := List.mem_map.1 hp
      obtain ⟨_, _, h2, h3⟩ := hy i (by simpa using hi)
      exact ⟨h2, h3⟩
set_option maxRecDepth 100000 in
theorem open_desk {H : Type} {enc : TypeId × Value → H} {W : World} {base : Nat} {v : Value} {d : DataW H} {p : List MemPlace} (hv : Value.okWide Try.prog W .any base 47 v)
    (h : DataW.Trod enc Try.prog W 0 (fun _ => true) true 47 v d p) : ∃ A c names B e ps, v = .agg #[.slice A names.length c, .slice B ps.length e] ∧ RdA W A (strs names) ∧ PsRdA W B ps ∧ names.length ≤ maxLen ∧ (∀ r ∈ names, r.size ≤ maxLen) ∧ psLen ps := by
  obtain ⟨cs, rfl, hs⟩ := okWide_struct Try.underlying47 hv
  rw [deskCells] at hs
  obtain ⟨x, y, rfl⟩ : ∃ x y, cs = #[x, y] := by
    refine ⟨cs[0], cs[1], ?_⟩
    apply Array.ext
    · simpa using hs
    · intro i h1 h2
      have : i = 0 ∨ i = 1 := by omega
      rcases this with e | e <;> subst e <;> rfl
  obtain ⟨fuel, hf⟩ := h
  obtain ⟨y0, y1, m, _, _, h0, h1⟩ := trod_struct2 Try.underlying47 hf
  rw [strsCells] at h0
  rw [picsCells] at h1
  obtain ⟨A, c, names, e0, a1, a2, a3⟩ := open_strs h0
  obtain ⟨B, e, ps, e1, b1, b2⟩ := open_pics h1
  simp [Value.cells] at e0 e1
  exact ⟨A, c, names, B, e, ps, by rw [e0, e1], a1, b1, a2, a3, b2⟩
set_option maxRecDepth 100000 in
set_option maxHeartbeats 2000000 in
theorem walkValidDesk (W : World) (A : Option Addr) (c : Nat) (names : List ByteArray) (B : Option Addr) (d : Nat) (ps : List (List ByteArray)) (hA : RdA W A (strs names)) (hB : PsRdA W B ps) (hn : names.length ≤ maxLen) (hs : ∀ r ∈ names, r.size ≤ maxLen) (hp : psLen ps) :
    Calls Try.prog 7 #[.agg #[.slice A names.length c, .slice B ps.length d]] W fun e w' => e = .returned (.bool true) ∧ Below W.heap.size W w' := by
  have SZ := Lib.hid (fun V (hb : Below W.heap.size W V) => deskSz_any A B c d names ps V (hA.ext hb) (hB.ext hb) hn hs hp)
  have TO := Lib.hid (fun V (hb : Below W.heap.size W V) (h : strsSmall names ∧ psSmall ps) => toDesk_any A B c d names ps V (hA.ext hb) (hB.ext hb) h.1 h.2)
  have EQ := Lib.hid (fun (A A' B B' : Option Addr) (c c' d d' : Nat) V h1 h2 h3 h4 (h : strsSmall names ∧ psSmall ps) => deskEq_any A A' B B' c c' d d' names ps V h1 h2 h3 h4 h.1 h.2)
  have SP := Lib.hid (fun (A B : Option Addr) (c d : Nat) V h1 h2 (h : strsSmall names ∧ psSmall ps) => validDeskS_any A B c d names ps V h1 h2 h.1.2 (fun p hp => (h.2.2 p hp).1))
  have IM := Lib.hid (fun (A B : Option Addr) (c d : Nat) V h1 h2 (h : strsSmall names ∧ psSmall ps) => validDeskI_any A B c d names ps V h1 h2 h.1.1 h.2.1 h.1.2 (fun p hp => (h.2.2 p hp).1))
  have XN := Lib.hid (fun (A : Option Addr) (V V' : World) (h : Rd V A (strs names)) (hb : Below V.heap.size V V') => h.ext hb)
  have XP := Lib.hid (fun (A : Option Addr) (V V' : World) (h : PsRd V A ps) (hb : Below V.heap.size V V') => h.ext hb)
  have T0 := Blk.made W 47 #[.slice A names.length c, .slice B ps.length d]
  have B0 : Below W.heap.size W (W.alloc (.cells #[.slice A names.length c, .slice B ps.length d] 47)) := Ext.more (Ext.refl _) _
  clear hA hB hn hs hp
  generalize dkOk names ps = β at *
  generalize names.length = n at *
  generalize ps.length = m at *
  have q0 : (β != β) = false := by simp
  go_enter Try.func7, Try.ntmps7
  go_wp2_with fail
  refine (SZ.out _ B0).mono ?_
  rintro e w1 ⟨⟨r, rfl, hr⟩, hb1⟩
  have T1 := T0.under hb1 T0.lt
  have B1 := Ext.then_ B0 hb1
  have c0 := T1.cell 0
  have c1 := T1.cell 1
  simp at c0 c1
  by_cases h0 : r < 0
  · clear hr T0 T1
    go_wp2_with fail
    go_ret
    exact ⟨rfl, B1⟩
  have SM := Lib.hid (hr.resolve_left h0)
  have TO1 := Lib.hid (TO.out w1 B1 SM.out)
  clear hr
  go_wp2_with fail
  refine TO1.out.mono ?_
  rintro e w2 ⟨⟨A2, c2, B2', d2, rfl, ra2, rb2⟩, hb2⟩
  have B2 := Ext.then_ B1 hb2
  have SP1 := Lib.hid (SP.out A2 B2' c2 d2 w2 ra2 rb2 SM.out)
  have T2 := T1.under hb2 T1.lt
  clear c0 c1 TO1
  go_wp2_with fail
  refine SP1.out.mono ?_
  rintro e w3 ⟨rfl, hb3⟩
  have B3 := Ext.then_ B2 hb3
  have T3 := T2.under hb3 T2.lt
  have c0 := T3.cell 0
  have c1 := T3.cell 1
  simp at c0 c1
  have TO1 := Lib.hid (TO.out w3 B3 SM.out)
  clear SP1 ra2 rb2
  go_wp2_with fail
  refine TO1.out.mono ?_
  rintro e w4 ⟨⟨A4, c4, B4', d4, rfl, ra4, rb4⟩, hb4⟩
  have B4 := Ext.then_ B3 hb4
  have T4 := T3.under hb4 T3.lt
  have ra := Lib.hid ra4
  have rb := Lib.hid rb4
  have K5 := Blk.made w4 52 #[.slice A4 n c4, .slice B4' m d4]
  have T5 := T4.more (.cells #[.slice A4 n c4, .slice B4' m d4] 52)
  have E5 : Hid (Below w4.heap.size w4 (w4.alloc (.cells #[.slice A4 n c4, .slice B4' m d4] 52))) := Ext.more (Ext.refl _) _
  have B5 : Below W.heap.size W (w4.alloc (.cells #[.slice A4 n c4, .slice B4' m d4] 52)) := Ext.more B4 _
  have k0 := K5.cell 0
  have k1 := K5.cell 1
  simp at k0 k1
  clear c0 c1 TO1 ra4 rb4
  go_wp2_with fail
  have IM1 := Lib.hid (IM.out A4 B4' c4 d4 (w4.alloc (.cells #[.slice A4 n c4, .slice B4' m d4] 52)) (XN.out _ _ _ ra.out E5.out) (XP.out _ _ _ rb.out E5.out) SM.out)
  refine IM1.out.mono ?_
  rintro e w6 ⟨rfl, hb6⟩
  have B6 := Ext.then_ B5 hb6
  have K6 := K5.under hb6 K5.lt
  have T6 := T5.under hb6 T5.lt
  have E6 : Hid (Below w4.heap.size w4 w6) := Ext.then_ E5.out hb6
  clear k0 k1 IM1
  have k0 := K6.cell 0
  have k1 := K6.cell 1
  have c0 := T6.cell 0
  have c1 := T6.cell 1
  simp at c0 c1 k0 k1
  have TO1 := Lib.hid (fun V (hb : Below W.heap.size W V) => TO.out V hb SM.out)
  have kl := K6.lt
  have tl := T6.lt
  go_wp2_with fail
  go_region_held3 (fun w' => w'.cell? ⟨w4.heap.size, 0, none⟩ = some (.slice A4 n c4) ∧ w'.cell? ⟨w4.heap.size, 1, none⟩ = some (.slice B4' m d4) ∧ w'.cell? ⟨W.heap.size, 0, none⟩ = some (.slice A n c) ∧ w'.cell? ⟨W.heap.size, 1, none⟩ = some (.slice B m d))
    (first | ((go_split_ands; refine ⟨?_, ?_, ?_, ?_⟩ <;> exact (hb'.cell (p := ⟨_, _, none⟩) (by first | omega | (simp; omega) | simp)).trans (by assumption))) | go_keep)
    (first
      | (go_at_call 24; refine (TO1.out _ (Ext.draw B6)).mono ?_; rintro e w7 ⟨⟨A7, c7, B7, d7, rfl, ra7, rb7⟩, hb'⟩; have ra7 := Lib.hid ra7; have rb7 := Lib.hid rb7; have hs7 := hb'; have z7 : w6.heap.size ≤ w7.heap.size := hb'.size)
      | (go_at_call 26; refine (EQ.out _ _ _ _ _ _ _ _ _ (XN.out _ _ _ ra.out (Ext.then_ (Ext.draw E6.out) hs7)) ra7.out (XP.out _ _ _ rb.out (Ext.then_ (Ext.draw E6.out) hs7)) rb7.out SM.out).mono ?_; rintro e w8 ⟨rfl, hb'⟩))
  go_wp2_with fail
  go_ret
  exact ⟨rfl, Ext.then_ (Ext.then_ (Ext.draw B6) hs7) hb'⟩
end Go.Proofs.Ytogefmkplkddoaa
