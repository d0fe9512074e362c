/- The reference's insertion of a code among codes in order. -/
import Derived.Test.YtdhajndmebnknaaTopI
import Derived.Deep.RegionHeld3
import Derived.Deep.CutRange
import Derived.Deep.DeepCutAuto
namespace Go.Proofs.Ytdhajndmebnknaa
open Go.RowKit

theorem own_preT {w : World} {base : Nat} {e : TypeId} {size g n cap k : Nat} {xs : List Value} (h : w.ownsRow base e size (.slice (some ⟨g, 0, none⟩) n cap) n xs) (hk : k ≤ n) : w.ownsRow base e size (.slice (some ⟨g, 0, none⟩) k cap) k (xs.take (k * size)) := by
  rcases h.2 with ⟨hv, _⟩ | ⟨g', cap', cur, hv, hbase, hb, h1, h2, h3, h4⟩
  · cases hv
  · simp only [Value.slice.injEq, Option.some.injEq, Addr.mk.injEq] at hv
    obtain ⟨⟨rfl, _⟩, _, rfl⟩ := hv
    have hl := h.1
    have hks : k * size ≤ n * size := Nat.mul_le_mul_right _ hk
    refine ⟨by rw [List.length_take, hl]; omega, .inr ⟨g, cap, cur, rfl, hbase, hb, Nat.le_trans hk h1, h2, h3, ?_⟩⟩
    rw [← h4, List.take_take]
    congr 1
    omega
/-- Append of a slice to one of the call's own. -/
theorem wpList_appUT {T e : TypeId} {z : Value} {size bytes : Nat} (E : ElemT T e z size bytes) {w : World} {ops : Array Oper} {rest : List Oper} {o : Oper} {a : Act} {Q : Exit → Act → World → Prop} (hgd : o.guard = none) (s x : Operand)
    (ho : o.op = .call { callee := .builtin .append, args := #[s, x], argTypes := #[T, T] })
    (base : Nat) (g0 n c0 : Nat) (xs : List Value) (hs : a.eval s = .slice (some ⟨g0, 0, none⟩) n c0) (hown : w.ownsRow base e size (.slice (some ⟨g0, 0, none⟩) n c0) n xs)
    (ad : Addr) (m c : Nat) (news : List Value) (hx : a.eval x = .slice (some ad) m c) (hl : news.length = m * size) (hnews : ∀ j u, news[j]? = some u → w.cell? (ad.add j) = some u) (h1 : ∀ u ∈ news, u.oneCell' = true)
    (N : Nat) (ys : List Value) (hN : n + m = N) (hys : xs ++ news = ys) (hn : N ≤ 1000000000) (hbase : base ≤ w.heap.size)
    (h : ∀ g cap w', w'.ownsRow base e size (.slice (some ⟨g, 0, none⟩) N cap) N ys → w.grownBy w' (some g0) → wpList Try.prog ops Q rest (a.put o.dst (.slice (some ⟨g, 0, none⟩) N cap)) w') : wpList Try.prog ops Q (o :: rest) a w := by
  subst hN
  subst hys
  obtain ⟨i0, hi, hz0, hz1, hz2⟩ := info_parts E.info
  have hsm := E.small
  refine wpList_append_own w hgd s x T ho base e i0 z size bytes E.under hi hz0 hz1 hz2 E.cells E.pos _ n xs hs hown ad m c news hx hl hnews h1 (by unfold maxLen; omega) ?_ hbase ?_
  · have : (n + m) * bytes ≤ 1000000001 * 64 := Nat.mul_le_mul (by omega) hsm
    omega
  · intro v' w' hown' hg hnil
    have hne : v' ≠ .slice none 0 0 := fun e => by
      have := (hnil.1 e).1
      cases this
    rcases hown'.2 with ⟨e, _⟩ | ⟨g', c', _, rfl, _⟩
    · exact absurd e hne
    · exact h g' c' w' hown' hg
/-- A text put into texts in ascending order. -/
def insT (l : List Txt) (c : Txt) : List Txt := l.takeWhile (fun x => decide (x < c)) ++ c :: l.dropWhile (fun x => decide (x < c))
theorem insT_at {l : List Txt} {c : Txt} {k : Nat} (hk : k ≤ l.length) (h1 : ∀ i (h : i < l.length), i < k → l[i] < c) (h2 : ∀ h : k < l.length, ¬ l[k] < c) : insT l c = l.take k ++ c :: l.drop k := by
  have key : ∀ (l : List Txt) (k : Nat), k ≤ l.length → (∀ i (h : i < l.length), i < k → l[i] < c) → (∀ h : k < l.length, ¬ l[k] < c) → l.takeWhile (fun x => decide (x < c)) = l.take k ∧ l.dropWhile (fun x => decide (x < c)) = l.drop k := by
    intro l
    induction l with
    | nil => intro k _ _ _; simp
    | cons a l ih =>
      intro k hk h1 h2
      cases k with
      | zero =>
        have : ¬ a < c := h2 (by simp)
        simp [this]
      | succ k =>
        have ha : a < c := h1 0 (by simp) (by omega)
        obtain ⟨e1, e2⟩ := ih k (by simpa using hk) (fun i h hi => h1 (i + 1) (by simpa using h) (by omega)) (fun h => h2 (by simpa using h))
        simp [ha, e1, e2]
  obtain ⟨e1, e2⟩ := key l k hk h1 h2
  rw [insT, e1, e2]
theorem insT_srt (cs : List Txt) (c : Txt) : insT (srtC cs) c = srtC (cs ++ [c]) := by
  symm
  refine srt_of ?_ ?_
  · have h1 : ((srtC cs).takeWhile (fun x => decide (x < c)) ++ (srtC cs).dropWhile (fun x => decide (x < c))) = srtC cs := List.takeWhile_append_dropWhile
    have h2 : (insT (srtC cs) c).Perm (c :: (srtC cs)) := by
      rw [insT]
      refine List.perm_middle.trans ?_
      rw [h1]
    refine h2.trans ((List.Perm.cons c (srt_perm cs)).trans ?_)
    exact (List.perm_append_singleton c cs).symm
  · have hs := srt_pair cs
    have h1 : ((srtC cs).takeWhile (fun x => decide (x < c)) ++ (srtC cs).dropWhile (fun x => decide (x < c))) = srtC cs := List.takeWhile_append_dropWhile
    rw [← h1, List.pairwise_append] at hs
    have ht : ∀ x ∈ (srtC cs).takeWhile (fun x => decide (x < c)), x ≤ c := fun x hx => by
      have := List.all_takeWhile (p := fun x => decide (x < c)) (l := srtC cs)
      rw [List.all_eq_true] at this
      have h3 : x < c := by simpa using this x hx
      exact List.le_of_lt h3
    have hd : ∀ x ∈ (srtC cs).dropWhile (fun x => decide (x < c)), c ≤ x := by
      intro x hx
      cases hdw : (srtC cs).dropWhile (fun x => decide (x < c)) with
      | nil => rw [hdw] at hx; simp at hx
      | cons y m =>
        have hy : ¬ y < c := by
          have := List.head?_dropWhile_not (fun x => decide (x < c)) (srtC cs)
          rw [hdw] at this
          simpa using this
        have hcy : c ≤ y := List.not_lt.1 hy
        rw [hdw] at hx
        rcases List.mem_cons.1 hx with rfl | hx
        · exact hcy
        · have h5 := hs.2.1
          rw [hdw, List.pairwise_cons] at h5
          exact List.le_trans hcy (h5.1 x hx)
    rw [insT, List.pairwise_append, List.pairwise_cons]
    refine ⟨hs.1, ⟨hd, hs.2.1⟩, fun a ha b hb => ?_⟩
    rcases List.mem_cons.1 hb with rfl | hb
    · exact ht a ha
    · exact hs.2.2 a ha b hb
set_option maxRecDepth 100000 in
set_option maxHeartbeats 4000000 in
theorem insertT_any (base g n cap : Nat) (l : List Txt) (c : Txt) (w : World) (h : w.ownsRow base 9 1 (.slice (some ⟨g, 0, none⟩) n cap) n (l.map encStr)) (hn : l.length = n) (hb : n ≤ 100000) (hbw : base ≤ w.heap.size) :
    Calls Try.prog 83 #[.slice (some ⟨g, 0, none⟩) n cap, .string ⟨c.toArray⟩] w fun e w' => ∃ g' cap', e = .returned (.slice (some ⟨g', 0, none⟩) (n + 1) cap') ∧ w'.ownsRow base 9 1 (.slice (some ⟨g', 0, none⟩) (n + 1) cap') (n + 1) ((insT l c).map encStr) ∧ Chg (fun b => b = g) w w' := by
  have gl := h.lt g rfl
  have hcap : n ≤ cap := by
    rcases h.2 with ⟨h, _⟩ | ⟨g', cap', cur, h, _, _, hcc, _⟩
    · cases h
    · simp only [Value.slice.injEq] at h
      obtain ⟨_, _, rfl⟩ := h
      exact hcc
  have CE : Hid (∀ k (hk : k < l.length), w.cell? ⟨g, k, none⟩ = some (.string ⟨(l[k]).toArray⟩)) := fun k hk => by
    rw [h.cellAt k (by omega), List.getElem?_map, List.getElem?_eq_getElem hk]; rfl
  have HH := Lib.hid h
  have HN := Lib.hid hn
  have IA := Lib.hid (fun k (hk : k ≤ l.length) h1 h2 => insT_at (l := l) (c := c) (k := k) hk h1 h2)
  clear h hn
  obtain ⟨cb, hcb⟩ : ∃ cb, ByteArray.mk c.toArray = cb := ⟨_, rfl⟩
  have HCB := Lib.hid hcb
  rw [hcb]
  clear hcb
  go_enter Try.func83, Try.ntmps83
  go_wp2_with fail
  go_loopw [5] (fun kv wr => ∃ k : Nat, k ≤ n ∧ kv = .int .i64 k ∧ Hid (∀ i (h : i < l.length), i < k → l[i] < c) ∧ wr = w) (fun kv _ => n - (intOf kv).toNat)
  case atStart => exact ⟨0, Nat.zero_le _, rfl, (fun _ _ h => absurd h (Nat.not_lt_zero _)), rfl⟩
  case round =>
    obtain ⟨k, hk, rfl, hI, hwr⟩ := hrel
    obtain rfl : w = wr := hwr.symm
    have FIN : Hid (∀ (P : Prop), (insT l c = l.take k ++ c :: l.drop k → P) → ((∀ h : k < l.length, ¬ l[k] < c) → P)) := fun P hp h2 => hp (IA.out k (by rw [HN.out]; exact hk) hI.out h2)
    by_cases hlt : k < n
    · have hkl : k < l.length := by rw [HN.out]; exact hlt
      have ck := CE.out k hkl
      have i0 : (0 : Int) ≤ (k : Int) := by omega
      have i1 : (k : Int) < (n : Int) := by omega
      have q1 : decide ((k : Int) < (n : Int)) = true := decide_eq_true i1
      have BL : Op.bytesLess (ByteArray.mk (l[k]).toArray).toList cb.toList = decide (l[k] < c) := by
        rw [ByteArray.toList_eq, ByteArray.toList_eq, ← HCB.out, bytesLess_eq]
      by_cases hless : l[k] < c
      · rw [decide_eq_true hless] at BL
        have HI2 : Hid (∀ i (h : i < l.length), i < k + 1 → l[i] < c) := fun i h hi => by
          rcases Nat.lt_succ_iff_lt_or_eq.1 hi with h1 | rfl
          · exact hI.out i h h1
          · exact hless
        clear hless
        generalize ByteArray.mk (l[k]).toArray = lk at *
        go_wp2_with fail
        go_roundw
        case rel => exact ⟨k + 1, by omega, by go_num, HI2, by trivial⟩
        case measure => simp [intOf]; omega
      · have e := Lib.hid (FIN.out _ (fun h => h) (fun _ => hless))
        rw [decide_eq_false hless] at BL
        clear hless
        generalize ByteArray.mk (l[k]).toArray = lk at *
        go_upto_region 4 with fail
        have k0' : (0 : Int) ≤ (k : Int) := by omega
        have k1' : (k : Int) ≤ (n : Int) := by omega
        have k2' : (n : Int) ≤ (cap : Int) := by omega
        have ev : ((k : Int)).toNat = k := by omega
        have O1 := World.ownsRow_lit (e := 9) (size := 1) w #[] 0 (Nat.le_refl _) (by decide) rfl
        have B1 := Ext.more (Ext.refl w) (.cells #[] 9)
        have H1 := own_ext B1 HH.out
        have NW : Hid (∀ j u, ((l.map encStr).drop k)[j]? = some u → ∀ o, o = k → (w.alloc (.cells #[] 9)).cell? ⟨g, o + j, none⟩ = some u) := fun j u hj o ho => by
          subst ho
          have hlt : o + j < n := by
            by_cases h : o + j < (l.map encStr).length
            · rw [List.length_map, HN.out] at h; exact h
            · rw [List.getElem?_drop, List.getElem?_eq_none (by omega)] at hj; cases hj
          rw [H1.cellAt (o + j) (by omega), ← List.getElem?_drop]
          exact hj
        have DL : Hid (((l.map encStr).drop k).length = (n - k) * 1) := by rw [Hid, List.length_drop, List.length_map, HN.out, Nat.mul_one]
        have ONE : Hid (∀ u ∈ (l.map encStr).drop k, u.oneCell' = true) := fun u hu => by
          obtain ⟨x, _, rfl⟩ := List.mem_map.1 (List.mem_of_mem_drop hu)
          rfl
        have HH1 := Lib.hid H1
        have HO1 := Lib.hid O1
        have z1 : (w.alloc (.cells #[] 9)).heap.size = w.heap.size + 1 := by simp
        clear H1 O1
        go_upto_region 5 with (at_builtin; refine wpList_appUT strT (by rfl) _ _ (by rfl) w.heap.size w.heap.size 0 0 [] (by rfl) HO1.out ⟨g, k, none⟩ (n - k) (cap - k) ((l.map encStr).drop k) (by rfl) DL.out (fun j u hj => by rw [show (⟨g, k, none⟩ : Addr).add j = ⟨g, k + j, none⟩ from by simp [Addr.add]]; exact NW.out j u hj k rfl) ONE.out (n - k) ((l.map encStr).drop k) (by omega) rfl (by omega) (by simp) ?_; intro g3 cap3 w3 hown3 hgrow3)
        have z3 := hgrow3.size
        have g3w := (hown3.lt g3 rfl).1
        have H3 := own_preT (HH1.out.kept hgrow3 (.inr (by simp [Value.ownBlock]; omega))) (show k ≤ n by omega)
        rw [Nat.mul_one] at H3
        have bw3 : base ≤ w3.heap.size := by rw [z1] at z3; omega
        have HX3 := Lib.hid (And.intro H3 (And.intro hown3 hgrow3))
        clear hown3 hgrow3 NW
        go_wp2_with (first
          | (at_builtin; refine wpList_app strT (by rfl) _ _ (by rfl) base (.slice (some ⟨g, 0, none⟩) k cap) k ((l.map encStr).take k) (by rfl) (HX3.out.1.alloc _) w3.heap.size #[.string cb] (by rfl) (heap_alloc_new _ _) rfl (by simp [Value.oneCell']) (by omega) (by simp; omega) ?_; intro g4 cap4 w4 hown4 hgrow4 hat4 hlt4)
          | (at_builtin; have R4 := World.ownsRow.kept (HX3.out.2.1.alloc (.cells #[.string cb] 9)) hgrow4 (.inr (by simp [Value.ownBlock]; omega)); refine wpList_appUT strT (by rfl) _ _ (by rfl) base g4 (k + 1) cap4 ((l.map encStr).take k ++ [.string cb]) (by rfl) (by simpa using hown4) ⟨g3, 0, none⟩ (n - k) cap3 ((l.map encStr).drop k) (by rfl) DL.out (fun j u hj => by
              have hjl : j < n - k := by
                by_cases h : j < ((l.map encStr).drop k).length
                · rw [DL.out, Nat.mul_one] at h; exact h
                · rw [List.getElem?_eq_none (by omega)] at hj; cases hj
              have := R4.cellAt j (by omega)
              rw [hj] at this
              rw [show (⟨g3, 0, none⟩ : Addr).add j = ⟨g3, j, none⟩ from by simp [Addr.add]; omega]
              exact this) ONE.out (n + 1) ((insT l c).map encStr) (by omega) (by rw [e.out, List.map_append, List.map_cons, ← List.map_take, ← List.map_drop, ← HCB.out]; simp) (by omega) (by have := hgrow4.size; simp at this; omega) ?_; intro g5 cap5 w5 hown5 hgrow5))
        have z4 := hgrow4.size
        have C5 : Chg (fun b => b = g ∨ w.heap.size ≤ b) w w5 := by
          have a1 : Chg (fun b => b = g ∨ w.heap.size ≤ b) w (w.alloc (.cells #[] 9)) := (Chg.of_below B1).mono (fun b hb => .inr hb)
          have a2 : Chg (fun b => b = g ∨ w.heap.size ≤ b) (w.alloc (.cells #[] 9)) w3 := (Chg.of_rowT HX3.out.2.2).mono (fun b hb => .inr (by have := Option.some.inj hb; omega))
          have a3 : Chg (fun b => b = g ∨ w.heap.size ≤ b) w3 (w3.alloc (.cells #[.string cb] 9)) := (Chg.of_below (Ext.more (Ext.refl w3) _)).mono (fun b hb => .inr (by rw [z1] at z3; omega))
          have a4 : Chg (fun b => b = g ∨ w.heap.size ≤ b) (w3.alloc (.cells #[.string cb] 9)) w4 := (Chg.of_rowT hgrow4).mono (fun b hb => .inl (by have h0 : g = b := (by simpa [Value.ownBlock] using hb); exact h0.symm))
          have a5 : Chg (fun b => b = g ∨ w.heap.size ≤ b) w4 w5 := (Chg.of_rowT hgrow5).mono (fun b hb => by
            have hb' := Option.some.inj hb
            rcases hat4 with h | h
            · left; have : g = g4 := by simpa [Value.ownBlock] using h
              omega
            · right; simp at h; rw [z1] at z3; omega)
          exact (((a1.trans a2).trans a3).trans a4).trans a5
        have C6 : Chg (fun b => b = g) w w5 := ⟨C5.os, C5.tape, C5.output, C5.size, fun b hb hne => C5.block b hb (by omega)⟩
        have O5 := Lib.hid hown5
        clear hown5 hgrow5 hown4 hgrow4 hat4 hlt4
        go_wp2_with fail
        go_ret
        exact ⟨g5, cap5, rfl, O5.out, C6⟩
    · obtain rfl : k = n := by omega
      have q1 : decide ((k : Int) < (k : Int)) = false := by simp
      have e := Lib.hid (FIN.out _ (fun h => h) (fun h => absurd h (by rw [HN.out]; omega)))
      have E2 : Hid ((insT l c).map encStr = l.map encStr ++ [.string cb]) := by
        rw [Hid, e.out, List.take_of_length_le (by rw [HN.out]; omega), List.drop_of_length_le (by rw [HN.out]; omega), List.map_append, ← HCB.out]
        simp
      have B1 := Ext.more (Ext.refl w) (.cells #[] 9)
      have H1 := Lib.hid (own_ext B1 HH.out)
      have k2' : (k : Int) ≤ (cap : Int) := by omega
      have z1 : (w.alloc (.cells #[] 9)).heap.size = w.heap.size + 1 := by simp
      by_cases hcc : cap - k = 0
      all_goals
        go_upto_region 5 with fail
        go_wp2_with (first
          | (at_builtin; refine wpList_app strT (by rfl) _ _ (by rfl) base (.slice (some ⟨g, 0, none⟩) k _) k (l.map encStr) (by rfl) (H1.out.alloc _) (w.heap.size + 1) #[.string cb] (by rfl) (by have := heap_alloc_new (w.alloc (.cells #[] 9)) (.cells #[.string cb] 9); rwa [z1] at this) rfl (by simp [Value.oneCell']) (by omega) (by simp; omega) ?_; intro g4 cap4 w4 hown4 hgrow4 hat4 hlt4)
          | (at_builtin; refine wpList_appUT strT (by rfl) _ _ (by rfl) base g4 (k + 1) cap4 (l.map encStr ++ [.string cb]) (by rfl) (by simpa using hown4) ⟨w.heap.size, 0, none⟩ 0 0 [] (by rfl) (by simp) (fun j u hj => by cases hj) (by simp) (k + 1) ((insT l c).map encStr) (by omega) (by rw [E2.out]; simp) (by omega) (by have := hgrow4.size; simp at this; omega) ?_; intro g5 cap5 w5 hown5 hgrow5))
        have z4 := hgrow4.size
        have C5 : Chg (fun b => b = g ∨ w.heap.size ≤ b) w w5 := by
          have a1 : Chg (fun b => b = g ∨ w.heap.size ≤ b) w (w.alloc (.cells #[] 9)) := (Chg.of_below B1).mono (fun b hb => .inr hb)
          have a3 : Chg (fun b => b = g ∨ w.heap.size ≤ b) (w.alloc (.cells #[] 9)) ((w.alloc (.cells #[] 9)).alloc (.cells #[.string cb] 9)) := (Chg.of_below (Ext.more (Ext.refl _) _)).mono (fun b hb => .inr (by simp at hb; omega))
          have a4 : Chg (fun b => b = g ∨ w.heap.size ≤ b) ((w.alloc (.cells #[] 9)).alloc (.cells #[.string cb] 9)) w4 := (Chg.of_rowT hgrow4).mono (fun b hb => .inl (by have h0 : g = b := (by simpa [Value.ownBlock] using hb); exact h0.symm))
          have a5 : Chg (fun b => b = g ∨ w.heap.size ≤ b) w4 w5 := (Chg.of_rowT hgrow5).mono (fun b hb => by
            have hb' := Option.some.inj hb
            rcases hat4 with h | h
            · left; have : g = g4 := by simpa [Value.ownBlock] using h
              omega
            · right; simp at h; omega)
          exact ((a1.trans a3).trans a4).trans a5
        have C6 : Chg (fun b => b = g) w w5 := ⟨C5.os, C5.tape, C5.output, C5.size, fun b hb hne => C5.block b hb (by omega)⟩
        have O5 := Lib.hid hown5
        clear hown5 hgrow5 hown4 hgrow4 hat4 hlt4
        go_wp2_with fail
        go_ret
        exact ⟨g5, cap5, rfl, O5.out, C6⟩
end Go.Proofs.Ytdhajndmebnknaa
