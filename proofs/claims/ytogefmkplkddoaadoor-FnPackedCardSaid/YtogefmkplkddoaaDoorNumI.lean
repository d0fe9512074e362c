/- Numbers read from their codes: what the program's way of reading rests on. Plain. Codes of numbers: the reference's. Rows of bytes that a text was turned into: they bear the mark of the run-time behind their last cell. Codes of numbers: the program's. Numbers read from their codes: the program's. -/
import Derived.Test.YtogefmkplkddoaaDoorNum
import Derived.Test.YtogefmkplkddoaaDoorCodeM
import Derived.Test.YtogefmkplkddoaaDoorMem
import Derived.Test.YtogefmkplkddoaaDoorBts
import Derived.ArgAppend
import Derived.Test.YtogefmkplkddoaaDoorShelf
import Derived.Laws.BitsLemmas
import Derived.Laws.RangeString
import Derived.Laws.RangeAny
import Derived.Deep.RegionLaw
namespace Go.Proofs.YtogefmkplkddoaaDoor
open Go.RowKit

/-- The first 1 of a text. -/
theorem idx_spec : ∀ (l : List UInt8), (Lib.indexByte l 49 = -1 ∧ ∀ b ∈ l, b ≠ 49) ∨ ∃ k : Nat, Lib.indexByte l 49 = k ∧ k < l.length ∧ l.getD k 0 = 49 ∧ ∀ j, j < k → l.getD j 0 ≠ 49
  | [] => .inl ⟨rfl, by simp⟩
  | a :: t => by
    by_cases h : a = 49
    · exact .inr ⟨0, by simp [Lib.indexByte, h], by simp, by simp [h], fun j hj => absurd hj (Nat.not_lt_zero _)⟩
    · have hb : (a == 49) = false := by simpa using h
      rcases idx_spec t with ⟨h1, h2⟩ | ⟨k, h1, h2, h3, h4⟩
      · left
        refine ⟨by simp [Lib.indexByte, hb, h1], fun b hb => ?_⟩
        rcases List.mem_cons.1 hb with e | e
        · rw [e]; exact h
        · exact h2 b e
      · right
        refine ⟨k + 1, ?_, by simp; omega, by simpa using h3, fun j hj => ?_⟩
        · have : (Lib.indexByte t 49 == -1) = false := by rw [h1]; rw [beq_eq_false_iff_ne]; omega
          simp only [Lib.indexByte, hb, this]
          rw [h1]; simp
        · match j with
          | 0 => simpa using h
          | j + 1 => simpa using h4 j (by omega)
theorem zrs_le (l : List UInt8) : zrs l ≤ l.length := (List.takeWhile_sublist _).length_le
theorem zrs_lt (l : List UInt8) : ∀ j, j < zrs l → l.getD j 0 = 48 := by
  induction l with
  | nil => intro j h; simp [zrs] at h
  | cons a t ih =>
    intro j h
    unfold zrs at h
    rw [List.takeWhile_cons] at h
    by_cases ha : a = 48
    · rw [if_pos (by simp [ha])] at h
      match j with
      | 0 => exact ha
      | j + 1 => exact ih j (by simp at h; exact h)
    · rw [if_neg (by simpa using ha)] at h; simp at h
theorem zrs_at (l : List UInt8) : zrs l < l.length → l.getD (zrs l) 0 ≠ 48 := by
  induction l with
  | nil => intro h; simp [zrs] at h
  | cons a t ih =>
    intro h
    unfold zrs at h ⊢
    rw [List.takeWhile_cons] at h ⊢
    by_cases ha : a = 48
    · rw [if_pos (by simp [ha])] at h ⊢
      simp at h ⊢
      exact ih h
    · rw [if_neg (by simpa using ha)] at h ⊢
      simpa using ha
/-- Where the first that is no 0 is no 1, there is no number. -/
theorem step_bad {l : List UInt8} (h : zrs l < l.length → l.getD (zrs l) 0 ≠ 49) : nmStep l = none := by
  unfold nmStep
  split
  · rfl
  · rename_i hc
    rw [if_neg]
    intro hh
    have hz : zrs l < l.length := by omega
    have h1 := (all_take (bs := l.drop (zrs l)) (m := zrs l + 1) (by rw [List.length_drop]; omega)).1 hh.1 0 (by omega)
    have e : (l.drop (zrs l)).getD 0 0 = l.getD (zrs l) 0 := by simp only [List.getD_eq_getElem?_getD, List.getElem?_drop, Nat.add_zero]
    rw [e] at h1
    rcases h1 with h1 | h1
    · exact zrs_at l hz h1
    · exact h hz h1
theorem step_no1 {l : List UInt8} (h : ∀ b ∈ l, b ≠ 49) : nmStep l = none := step_bad (fun hz => by
  rw [List.getD_eq_getElem?_getD, List.getElem?_eq_getElem hz]
  exact h _ (List.getElem_mem hz))
/-- With a first 1 at k: either all ahead is 0, or there is no number. -/
theorem zrs_or {l : List UInt8} {k : Nat} (_hk : k < l.length) (h1 : l.getD k 0 = 49) (h2 : ∀ j, j < k → l.getD j 0 ≠ 49) : zrs l = k ∨ nmStep l = none := by
  have hle : zrs l ≤ k := by
    by_cases h : zrs l ≤ k
    · exact h
    · have := zrs_lt l k (by omega)
      rw [h1] at this; cases this
  by_cases e : zrs l = k
  · exact .inl e
  · exact .inr (step_bad (fun _ => h2 _ (by omega)))
theorem step_far {l : List UInt8} {k : Nat} (hk : k < l.length) (h1 : l.getD k 0 = 49) (h2 : ∀ j, j < k → l.getD j 0 ≠ 49) (h : 29 < k ∨ l.length < 2 * k + 1) : nmStep l = none := by
  rcases zrs_or hk h1 h2 with e | e
  · unfold nmStep; rw [if_pos (by rw [e]; exact h)]
  · exact e
theorem step_odd {l : List UInt8} {k : Nat} (hk : k < l.length) (h1 : l.getD k 0 = 49) (h2 : ∀ j, j < k → l.getD j 0 ≠ 49) (hl : 2 * k + 1 ≤ l.length) (h : ¬ bitL (l.take (2 * k + 1))) : nmStep l = none := by
  rcases zrs_or hk h1 h2 with e | e
  · unfold nmStep
    split
    · rfl
    · rw [if_neg]
      intro hh
      have h3 := (all_take (bs := l.drop (zrs l)) (m := zrs l + 1) (by rw [List.length_drop]; omega)).1 hh.1
      refine h ?_
      have h4 := (all_take (bs := l) (m := 2 * k + 1) hl).2 (fun a ha => by
        by_cases hz : a < zrs l
        · exact .inl (zrs_lt l a hz)
        · have := h3 (a - zrs l) (by omega)
          simp only [List.getD_eq_getElem?_getD, List.getElem?_drop] at this
          rw [show zrs l + (a - zrs l) = a from by omega] at this
          simpa only [List.getD_eq_getElem?_getD] using this)
      exact bits_iff.1 h4
  · exact e
/-- A first code that is right. -/
theorem step_good {l : List UInt8} {k : Nat} (hk : k < l.length) (h1 : l.getD k 0 = 49) (h2 : ∀ j, j < k → l.getD j 0 ≠ 49) (hl : 2 * k + 1 ≤ l.length) (hb : bitL (l.take (2 * k + 1))) :
    (k ≤ 29 → nmStep l = if vTo (l.drop k) (k + 1) ≤ 1000000000 then some (vTo (l.drop k) (k + 1), l.drop (2 * k + 1)) else none) ∧ 2 ^ k ≤ vTo (l.drop k) (k + 1) ∧ vTo (l.drop k) (k + 1) < 2 ^ (k + 1) ∧ codeL (vTo (l.drop k) (k + 1)) = l.take (2 * k + 1) := by
  have hbit := (all_take (bs := l) (m := 2 * k + 1) hl).1 (bits_iff.2 hb)
  have hz : zrs l = k := zrs_is (by omega) (fun j hj => by
    rcases hbit j (by omega) with h | h
    · exact h
    · exact absurd h (h2 j hj)) (fun _ => by rw [h1]; decide)
  have hd : ∀ a, (l.drop k).getD a 0 = l.getD (k + a) 0 := fun a => by simp only [List.getD_eq_getElem?_getD, List.getElem?_drop]
  have h0 : (l.drop k).getD 0 0 = 49 := by rw [hd]; exact h1
  have hbd : ∀ a, a ≤ k → (l.drop k).getD a 0 = 48 ∨ (l.drop k).getD a 0 = 49 := fun a ha => by rw [hd]; exact hbit (k + a) (by omega)
  have hlen : (l.drop k).length = l.length - k := List.length_drop
  have hlo := vTo_lo (l.drop k) (by rw [h0]; rfl) k
  have hbins := bins_vTo (l.drop k) h0 k (by rw [hlen]; omega) hbd
  have hhi : ∀ m, m ≤ k + 1 → vTo (l.drop k) m < 2 ^ m := by
    intro m
    induction m with
    | zero => intro _; exact Nat.one_pos
    | succ m ih =>
      intro hm
      have := ih (by omega)
      have hx : ((l.drop k).getD m 0).toNat - 48 ≤ 1 := by rcases hbd m (by omega) with h | h <;> rw [h] <;> decide
      rw [vTo, Nat.pow_succ]; omega
  refine ⟨fun h29 => ?_, hlo, hhi _ (Nat.le_refl _), ?_⟩
  · have hall : (((l.drop k).take (k + 1)).all fun b => b == 48 || b == 49) = true := (all_take (by rw [hlen]; omega)).2 (fun a ha => hbd a (by omega))
    unfold nmStep
    rw [if_neg (by rw [hz]; omega), hz, hall]
    simp
  · rw [codeL, hbins, List.length_take, hlen, show min (k + 1) (l.length - k) - 1 = k from by omega]
    have e : l.take k = zerosL k := by
      apply List.ext_getElem
      · rw [List.length_take, zerosL_length]; omega
      · intro j a1 a2
        rw [List.length_take] at a1
        have := hbit j (by omega)
        rw [List.getElem_take]
        have e2 : l.getD j 0 = l[j]'(by omega) := by rw [List.getD_eq_getElem?_getD, List.getElem?_eq_getElem (by omega)]; rfl
        have h3 := zrs_lt l j (by rw [hz]; omega)
        rw [e2] at h3
        rw [h3]
        simp [zerosL]
    rw [← e, show 2 * k + 1 = k + (k + 1) from by omega]
    exact List.take_add.symm
end Go.Proofs.YtogefmkplkddoaaDoor

namespace Go.Proofs.YtogefmkplkddoaaDoor
open Go.RowKit

set_option maxRecDepth 100000 in
set_option maxHeartbeats 1000000 in
theorem codeS_any (n : Nat) (w : World) (hn : n ≤ 1000000001) :
    Calls Tryd.prog 84 #[.int .i64 n] w fun e w' => e = .returned (.string (codeB n)) ∧ Below w.heap.size w w' := by
  have hl := bins_31 hn
  go_enter Tryd.func84, Tryd.ntmps84
  go_wp2_with fail
  go_loopw [3, 4] (fun o i wr => ∃ (k : Nat) (d : List UInt8), k ≤ n ∧ i = .int .i64 k ∧ o = .string ⟨d.toArray⟩ ∧ Hid (bins k ++ d = bins n) ∧ Below w.heap.size w wr) (fun _ i _ => (intOf i).toNat)
  case atStart => exact ⟨n, [], Nat.le_refl _, rfl, rfl, by rw [Hid, List.append_nil], Ext.refl _⟩
  case round =>
    obtain ⟨k, d, hk, rfl, rfl, hd, hb⟩ := hrel
    have hdl : d.length ≤ 30 := by
      have h3 := congrArg List.length hd.out
      rw [List.length_append] at h3
      omega
    by_cases hz : k = 0
    · subst hz
      have hd2 : d = bins n := by have := hd.out; rwa [bins_zero, List.nil_append] at this
      have HD := Lib.hid hd2
      clear hd hd2
      have hdz : (ByteArray.mk d.toArray).size = d.length := by simp [ByteArray.size]
      obtain ⟨m, hm⟩ : ∃ m, d.length = m := ⟨_, rfl⟩
      have HM := Lib.hid hm
      rw [hm] at hdl hdz
      go_wp2_with fail
      go_loopw [5, 6] (fun o i wr2 => ∃ j : Nat, 1 ≤ j ∧ (j ≤ m ∨ j = 1) ∧ i = .int .i64 j ∧ o = .string ⟨(zerosL (j - 1)).toArray⟩ ∧ wr2 = wr) (fun _ i _ => m - (intOf i).toNat)
      case atStart => exact ⟨1, Nat.le_refl _, Or.inr rfl, rfl, rfl, rfl⟩
      case round =>
        obtain ⟨j, hj1, hj, rfl, rfl, rfl⟩ := hrel
        by_cases hjl : j < m
        · have F : Hid (ByteArray.mk (zerosL (j - 1)).toArray ++ ByteArray.mk #[48] = ⟨(zerosL (j + 1 - 1)).toArray⟩) := by
            rw [Hid, show j + 1 - 1 = j - 1 + 1 by omega, zerosL_succ]
            exact bytes_app (zerosL (j - 1)) [48]
          have zl := zerosL_length (j - 1)
          have t3 : ¬ 9223372036854775807 < j - 1 + 1 := by omega
          go_wp2_with fail
          go_roundw
          case rel => exact ⟨j + 1, by omega, by omega, by go_num, by rw [← F.out], trivial⟩
          case measure => simp [intOf]; omega
        · have G : Hid (ByteArray.mk (zerosL (j - 1)).toArray ++ ByteArray.mk d.toArray = codeB n) := by
            have e : zerosL (j - 1) ++ d = codeL n := by
              have h1 := HM.out
              have h2 := HD.out
              rw [codeL, ← h2, h1]
              congr 2; omega
            rw [Hid, codeB, ← e]
            exact bytes_app _ _
          have zl := zerosL_length (j - 1)
          have t3 : ¬ 9223372036854775807 < j - 1 + m := by omega
          go_wp2_with fail
          go_ret
          exact ⟨by rw [G.out]; rfl, hb⟩
    · have t1 : (0 : Int) < (k : Int) := by omega
      have t3 : ¬ 9223372036854775807 < 1 + d.length := by omega
      have t4 : 0 < k := by omega
      have F : Hid (ByteArray.mk #[UInt8.ofNat (48 + k % 2)] ++ ByteArray.mk d.toArray = ⟨(UInt8.ofNat (48 + k % 2) :: d).toArray⟩) := bytes_app [UInt8.ofNat (48 + k % 2)] d
      have HD2 : Hid (bins (k / 2) ++ (UInt8.ofNat (48 + k % 2) :: d) = bins n) := by
        rw [Hid, ← hd.out, bins_pos hz, List.append_assoc]; rfl
      have hown := World.ownsRow_lit (e := 5) (size := 1) wr #[.int .u8 (48 + (k : Int) % 2)] 1 (Nat.le_refl _) (by decide) rfl
      have hcv : (convert 30 9 (.slice (some ⟨wr.heap.size, 0, none⟩) 1 1)).run Tryd.prog (wr.alloc (.cells #[.int .u8 (48 + (k : Int) % 2)] 5)) = .ok (.string ⟨#[UInt8.ofNat (48 + k % 2)]⟩) (wr.alloc (.cells #[.int .u8 (48 + (k : Int) % 2)] 5)) :=
        str_of_own (l := [UInt8.ofNat (48 + k % 2)]) (by rw [show u8s [UInt8.ofNat (48 + k % 2)] = [.int .u8 (48 + (k : Int) % 2)] by simp only [u8s, List.map_cons, List.map_nil, binU]]; exact hown) rfl
      clear hown hd
      generalize UInt8.ofNat (48 + k % 2) = u at *
      go_wp2_with fail
      go_roundw
      case rel => exact ⟨k / 2, u :: d, by omega, by simp, by rw [← F.out], HD2, Ext.more hb _⟩
      case measure => simp [intOf]; omega
def numOk (n : Int) : Bool := inB n 1 1000000000
def numCode (n : Int) : ByteArray := if numOk n then codeB n.toNat else ByteArray.empty
end Go.Proofs.YtogefmkplkddoaaDoor

namespace Go.Proofs.YtogefmkplkddoaaDoor
open Go.RowKit

def RowF (w : World) (base : Nat) (v : Value) (n : Nat) (xs : List Value) : Prop :=
  ∃ g cap cur fr, v = .slice (some ⟨g, 0, none⟩) n cap ∧ base ≤ g ∧ w.heap[g]? = some (.cells cur 5 fr) ∧ (cur.size ≤ fr.1 ∨ fr = (0, 0)) ∧ n ≤ cap ∧ cap ≤ maxLen ∧ cur.size = cap ∧ cur.toList.take n = xs
section
variable {w w' : World} {base n : Nat} {v : Value} {xs : List Value}
theorem RowF.len (h : RowF w base v n xs) : xs.length = n := by
  obtain ⟨g, cap, cur, fr, _, _, _, _, h1, _, h2, h3⟩ := h
  rw [← h3, List.length_take]; simp; omega
theorem RowF.block (h : RowF w base v n xs) {g : Nat} {cap : Nat} (hv : v = .slice (some ⟨g, 0, none⟩) n cap) : base ≤ g ∧ g < w.heap.size := by
  obtain ⟨g', cap', cur, fr, e, hb, hh, _⟩ := h
  rw [hv] at e
  injection e with e1
  injection e1 with e1
  injection e1 with e1
  subst e1
  refine ⟨hb, ?_⟩
  by_cases hlt : g < w.heap.size
  · exact hlt
  · rw [Array.getElem?_eq_none (by omega)] at hh; cases hh
theorem RowF.under {B : Nat} (h : RowF w base v n xs) (hb : Below B w w') (hB : w.heap.size ≤ B) : RowF w' base v n xs := by
  obtain ⟨g, cap, cur, fr, e, h1, hh, hr⟩ := h
  refine ⟨g, cap, cur, fr, e, h1, (hb.block g ?_).trans hh, hr⟩
  by_cases hlt : g < w.heap.size
  · omega
  · rw [Array.getElem?_eq_none (by omega)] at hh; cases hh
theorem RowF.ext (h : RowF w base v n xs) (hb : Below w.heap.size w w') : RowF w' base v n xs := h.under hb (Nat.le_refl _)
theorem RowF.cell (h : RowF w base v n xs) {g cap : Nat} (hv : v = .slice (some ⟨g, 0, none⟩) n cap) (j : Nat) (u : Value) (hj : xs[j]? = some u) : w.cell? ⟨g, j, none⟩ = some u := by
  obtain ⟨g', cap', cur, fr, e, hb, hh, _, h1, _, h2, h3⟩ := h
  rw [hv] at e
  injection e with e1
  injection e1 with e1
  injection e1 with e1
  subst e1
  have hl : j < n := by
    have := (List.getElem?_eq_some_iff.1 hj).1
    rw [← h3, List.length_take] at this; omega
  rw [← h3, List.getElem?_take_of_lt hl] at hj
  simp [World.cell?, hh]
  simpa using hj
theorem RowF.of_own {e : TypeId} (he : e = 5) {g cap : Nat} (h : w.ownsRow base e 1 (.slice (some ⟨g, 0, none⟩) n cap) n xs) : RowF w base (.slice (some ⟨g, 0, none⟩) n cap) n xs := by
  subst he
  rcases h.2 with ⟨h1, _⟩ | ⟨g', cap', cur, h1, h2, h3, h4, h5, h6, h7⟩
  · cases h1
  · injection h1 with e1 _ e3
    injection e1 with e1
    injection e1 with e1
    subst e1 e3
    exact ⟨g, cap, cur, (0, 0), rfl, h2, h3, .inr rfl, h4, h5, by omega, by simpa using h7⟩
end
theorem RowF.str {w : World} {base g n cap : Nat} {l : List UInt8} (h : RowF w base (.slice (some ⟨g, 0, none⟩) n cap) n (u8s l)) :
    (convert 30 9 (.slice (some ⟨g, 0, none⟩) n cap)).run Tryd.prog w = .ok (.string ⟨l.toArray⟩) w := by
  have hl : l.length = n := by have := h.len; simpa [u8s] using this
  subst hl
  refine run_convert_bytes_back w _ _ 5 _ _ l Tryd.underlying30 Tryd.underlying5 Tryd.underlying9 (fun j hj => ?_)
  rw [Addr.add_lit, Nat.zero_add]
  exact h.cell rfl j _ (by simp [u8s, hj])
/-- A text turned into bytes. -/
theorem bytes_of_str (V : World) (l : List UInt8) (hl : l.length ≤ 1000000) : ∃ cap C, (convert 9 30 (.string ⟨l.toArray⟩)).run Tryd.prog V = .ok (.slice (some ⟨V.heap.size, 0, none⟩) l.length cap) (V.drew.alloc (.cells C 5 (C.size, C.size + 1))) ∧
    RowF (V.drew.alloc (.cells C 5 (C.size, C.size + 1))) V.heap.size (.slice (some ⟨V.heap.size, 0, none⟩) l.length cap) l.length (u8s l) := by
  have h := run_bytes_of_string (P := Tryd.prog) V 9 30 5 ⟨l.toArray⟩ Tryd.underlying9 Tryd.underlying30 Tryd.underlying5
  have hz : (ByteArray.mk l.toArray).size = l.length := by simp [ByteArray.size]
  rw [hz] at h
  have hge := grownCap_ge V l.length 0 5
  have hle := grownCap_le_maxLen V l.length 0 5 (by unfold maxLen; omega)
  refine ⟨_, _, h, ⟨V.heap.size, _, _, _, rfl, Nat.le_refl _, heap_alloc_new V.drew _, .inl (Nat.le_refl _), hge, hle, ?_, ?_⟩⟩
  · simp [bytesRow] at *; omega
  · simp only [bytesRow, Array.toList_append]
    rw [List.take_left' (by simp)]
    simp [u8s]
set_option maxHeartbeats 400000 in
/-- append of one byte. -/
theorem wpList_appF {w : World} {ops : Array Oper} {rest : List Oper} {o : Oper} {a : Act} {Q : Exit → Act → World → Prop} (hgd : o.guard = none) (s x : Operand)
    (ho : o.op = .call { callee := .builtin .append, args := #[s, x], argTypes := #[30, 30] })
    (base : Nat) (v : Value) (n : Nat) (xs : List Value) (hs : a.eval s = v) (hr : RowF w base v n xs)
    (B : Nat) (u : Value) (hx : a.eval x = .slice (some ⟨B, 0, none⟩) 1 1) (hb : w.heap[B]? = some (.cells #[u] 5 (0, 0))) (h1 : u.oneCell' = true)
    (hn : n ≤ 1000000000) (hbase : base ≤ w.heap.size)
    (h : ∀ g cap w', RowF w' base (.slice (some ⟨g, 0, none⟩) (n + 1) cap) (n + 1) (xs ++ [u]) → Below base w w' → wpList Tryd.prog ops Q rest (a.put o.dst (.slice (some ⟨g, 0, none⟩) (n + 1) cap)) w') : wpList Tryd.prog ops Q (o :: rest) a w := by
  obtain ⟨i0, hi, hz0, hz1, hz2⟩ := info_parts byteT.info
  have hlen := hr.len
  have hr0 := hr
  obtain ⟨g, cap, cur, fr, rfl, hgb, hh, hfr, hnc, hcm, hcs, htk⟩ := hr
  refine wpList_append_arg w hgd s x _ ho _ i0 (.int .u8 0) 1 1 Tryd.underlying30 hi hz0 hz1 hz2 rfl (by decide) g 0 n cap xs hs (by omega) (fun j u hj => by rw [Nat.zero_add]; exact hr0.cell rfl j u hj) ⟨B, 0, none⟩ 1 1 [u] hx rfl (World.news_of_block hb) (by simpa using h1) ?_ (by unfold maxLen; omega) (by omega) ?_ ?_
  · intro hroom j hj
    have hj0 : j = 0 := by simpa using hj
    subst hj0
    have hsz : n < cur.size := by omega
    refine ⟨by simp [World.cell?, hh]; exact hsz, ?_⟩
    simp only [World.frozen?, hh, Nat.zero_add, Nat.mul_one, Nat.add_zero]
    rcases hfr with h | h
    · have : ¬ fr.1 ≤ n := by omega
      obtain ⟨lo, hi'⟩ := fr
      simp at this ⊢; omega
    · subst h; simp
  · intro hroom
    rw [show (0 + n * 1) = n by omega]
    refine h g cap _ ⟨g, cap, cur.setIfInBounds n u, fr, rfl, hgb, ?_, ?_, by omega, hcm, by simpa using hcs, ?_⟩ ?_
    · simp [World.setCells, World.setCell, Array.getElem?_modify, hh]
    · simpa using hfr
    · have hsz : n < cur.size := by omega
      rw [Array.toList_setIfInBounds, List.take_add_one, List.getElem?_set_self (by simpa using hsz)]
      rw [List.take_set_of_le (Nat.le_refl _), htk]
      rfl
    · exact (Below.refl _ _).setCell (p := ⟨g, n, none⟩) hgb _
  · intro _ v' w' hown hgrow
    rcases hown.2 with ⟨_, h0⟩ | ⟨g', cap', cur', hv, hg', _⟩
    · omega
    · subst hv
      refine h g' cap' w' ?_ ((Below.refl base w).grown hgrow hbase (by intro z hz; cases hz))
      obtain ⟨g2, cap2, cur2, fr2, e1, e2, e3⟩ := RowF.of_own rfl hown
      exact ⟨g2, cap2, cur2, fr2, e1, by omega, e3⟩
end Go.Proofs.YtogefmkplkddoaaDoor

namespace Go.Proofs.YtogefmkplkddoaaDoor
open Go.RowKit

theorem bins_bitLen : ∀ (m n : Nat), n < 2 ^ m → m ≤ 63 → Lib.bitLen n = (bins n).length := by
  intro m
  induction m with
  | zero => intro n h _; have : n = 0 := by simpa using h
            subst this; rw [bins_zero]; rfl
  | succ m ih =>
    intro n h hm
    by_cases h0 : n = 0
    · subst h0; rw [bins_zero]; rfl
    · have h64 : (2 : Nat) ^ (m + 1) ≤ 2 ^ 64 := Nat.pow_le_pow_right (by decide) (by omega)
      rw [bins_pos h0, Lib.bitLen_half n h0 (by omega), ih (n / 2) (by rw [Nat.pow_succ] at h; omega) (by omega)]
      simp; omega
theorem repeat_zeros : ∀ c, Lib.repeatL [48] c = zerosL c := by
  intro c
  induction c with
  | zero => rfl
  | succ c ih => rw [Lib.repeatL, ih, zerosL, zerosL, List.replicate_succ]; rfl
theorem shr_bit (n k : Nat) : ((n : Int) >>> k) % 2 = ((n / 2 ^ k % 2 : Nat) : Int) := by
  rw [Int.shiftRight_eq_div_pow]
  norm_cast
theorem bin8 (k : Nat) : ((UInt8.ofNat (48 + k % 2)).toNat : Int) = 48 + ((k % 2 : Nat) : Int) := by
  rw [binU]; omega

theorem and1 (a : Int) (h0 : 0 ≤ a) (h : a < 4611686018427387904) : bits BinOp.and IntKind.i64 a 1 = a % 2 :=
  bits_mask .i64 62 (by decide) (fun n h1 h2 => IntWalk.i64_in n (by have : (2 : Int) ^ 62 = 4611686018427387904 := by decide
                                                                     omega)) 1 (by decide) a h0 (by simpa using h)
theorem m48 (b : Nat) (h : b < 2) : (48 + (b : Int)) % 256 = 48 + (b : Int) := by omega
theorem w48 (b : Nat) (h : b < 2) : wrap64 (48 + (b : Int)) = 48 + (b : Int) := IntWalk.wrap64_in _ ⟨by omega, by omega⟩
set_option maxRecDepth 100000 in
set_option maxHeartbeats 1000000 in
theorem code_any (n : Nat) (w : World) (h0 : 0 < n) (hn : n ≤ 1000000001) :
    Calls Tryd.prog 68 #[.int .i64 n] w fun e w' => e = .returned (.string (codeB n)) ∧ Below w.heap.size w w' := by
  have hl := bins_31 hn
  have hl0 : 0 < (bins n).length := bins_lo 0 n (show 2 ^ 0 ≤ n from h0)
  have LB := Lib.hid (fun V => Tryd.bits_Len64 (n : Int) V (by omega) (by omega))
  rw [Int.toNat_natCast, bins_bitLen 30 n (by omega) (by omega)] at LB
  have HA := Lib.hid (hiBits_all _ n rfl)
  have CD : Hid (codeB n = ⟨(zerosL ((bins n).length - 1) ++ hiBits n (bins n).length (bins n).length).toArray⟩) := by rw [HA.out]; rfl
  have RP := Lib.hid (fun (c : Nat) V (hc : c ≤ 1000) => Tryd.strings_Repeat ⟨#[48]⟩ c V (by omega) (by simp [ByteArray.size]; omega))
  rw [CD.out]
  clear CD HA
  obtain ⟨m, hm⟩ : ∃ m, (bins n).length = m := ⟨_, rfl⟩
  rw [hm] at hl hl0 LB ⊢
  clear hm
  go_enter Tryd.func68, Tryd.ntmps68
  go_wp2_with fail
  refine (LB.out _).mono ?_
  rintro e w' ⟨rfl, hw⟩
  obtain rfl := hw.symm
  clear hw
  have j0 : (0 : Int) ≤ (m : Int) - 1 := by omega
  have e1 : (m : Int) - 1 = ((m - 1 : Nat) : Int) := by omega
  have R1 := Lib.hid (RP.out (m - 1) w (by omega))
  rw [← e1] at R1
  clear e1
  go_wp2_with fail
  refine R1.out.mono ?_
  rintro e w2 ⟨rfl, hb2⟩
  have er : Lib.repeatL (ByteArray.mk #[48]).data.toList (m - 1) = zerosL (m - 1) := repeat_zeros _
  rw [er]
  obtain ⟨cap, C, hcv, hrow⟩ := bytes_of_str w2 (zerosL (m - 1)) (by rw [zerosL_length]; omega)
  have zl := zerosL_length (m - 1)
  have B3 : Below w.heap.size w (w2.drew.alloc (.cells C 5 (C.size, C.size + 1))) := Ext.more (Ext.draw hb2) _
  rw [zl] at hcv hrow
  have HR := Lib.hid hrow
  have hz2 := hb2.size
  clear er hrow RP R1 LB hb2
  go_wp2_with fail
  go_loopw [4, 5] (fun v i wr => ∃ (k gb cb : Nat), k ≤ m ∧ i = .int .i64 ((m : Int) - 1 - k) ∧ v = .slice (some ⟨gb, 0, none⟩) (m - 1 + k) cb ∧ RowF wr w2.heap.size (.slice (some ⟨gb, 0, none⟩) (m - 1 + k) cb) (m - 1 + k) (u8s (zerosL (m - 1) ++ hiBits n m k)) ∧ Below w.heap.size w wr) (fun _ i _ => (intOf i + 1).toNat)
  case atStart => exact ⟨0, _, _, Nat.zero_le _, by go_num, rfl, by simp only [hiBits, List.append_nil, Nat.add_zero]; exact HR.out, B3⟩
  case round =>
    obtain ⟨k, gb, cb, hk, rfl, rfl, hrow, hb⟩ := hrel
    clear HR B3
    by_cases hlt : k < m
    · have SB := shr_bit n (m - 1 - k)
      have e2 : (m : Int) - 1 - k = ((m - 1 - k : Nat) : Int) := by omega
      have U8 := bin8 (n / 2 ^ (m - 1 - k))
      have HB : Hid (u8s (zerosL (m - 1) ++ hiBits n m (k + 1)) = u8s (zerosL (m - 1) ++ hiBits n m k) ++ [.int .u8 (48 + ((n / 2 ^ (m - 1 - k) % 2 : Nat) : Int))]) := by
        rw [Hid, hiBits, ← List.append_assoc]
        simp only [u8s, List.map_append, List.map_cons, List.map_nil, U8]
      clear U8
      have bb : n / 2 ^ (m - 1 - k) % 2 < 2 := Nat.mod_lt _ (by decide)
      rw [e2]
      have q0 : (n : Int) / 2 ^ (m - 1 - k) = ((n / 2 ^ (m - 1 - k) : Nat) : Int) := by norm_cast
      have q1 : n / 2 ^ (m - 1 - k) ≤ n := Nat.div_le_self _ _
      clear SB
      generalize n / 2 ^ (m - 1 - k) = dv at *
      have A1 := and1 (dv : Int) (by omega) (by omega)
      have A2 : (dv : Int) % 2 = ((dv % 2 : Nat) : Int) := by omega
      rw [A2] at A1
      clear A2
      generalize dv % 2 = bt at *
      have hzr := hb.size
      have W48 := w48 bt bb
      have M48 := m48 bt bb
      have hgl := hrow.block rfl
      have r1 := hrow.ext (Ext.more (Ext.refl wr) (.cells #[.int .u8 (48 + (bt : Int))] 5))
      have R1 := Lib.hid r1
      clear r1 e2
      go_wp2_with (at_builtin; refine wpList_appF (by rfl) _ _ (by rfl) w2.heap.size (.slice (some ⟨gb, 0, none⟩) (m - 1 + k) cb) (m - 1 + k) (u8s (zerosL (m - 1) ++ hiBits n m k)) (by rfl) R1.out wr.heap.size (.int .u8 (48 + (bt : Int))) (by rfl) (heap_alloc_new _ _) rfl (by omega) (by simp; omega) ?_; intro g3 cap3 w3 hrow3 hb3)
      go_roundw
      case rel => exact ⟨k + 1, g3, cap3, by omega, by go_num, by rw [show m - 1 + (k + 1) = m - 1 + k + 1 from rfl], by rw [show m - 1 + (k + 1) = m - 1 + k + 1 from rfl, HB.out]; exact hrow3, (Ext.more hb _).trans (hb3.mono hz2)⟩
      case measure => simp [intOf]
    · obtain rfl : k = m := by omega
      have hs := RowF.str hrow
      clear hrow
      go_wp2_with fail
      go_ret
      exact ⟨rfl, hb⟩
set_option maxHeartbeats 400000 in
theorem codeOfNumber_any (n : Int) (w : World) :
    Calls Tryd.prog 35 #[.int .i64 n] w fun e w' => e = .returned (.tuple #[.string (numCode n), .bool (numOk n)]) ∧ Below w.heap.size w w' := by
  have IN := Lib.hid (fun V => in_any n 1 1000000000 V)
  cases h : inB n 1 1000000000
  · have F : Hid (numCode n = ByteArray.empty ∧ numOk n = false) := by simp [Hid, numCode, numOk, h]
    rw [h] at IN
    rw [F.out.1, F.out.2]
    clear h
    go_enter Tryd.func35, Tryd.ntmps35
    go_wp2_with (go_at_call 67; refine (IN.out _).mono ?_; rintro e w' ⟨rfl, rfl⟩)
    go_ret2
    exact ⟨rfl, Ext.refl _⟩
  · have F : Hid (numCode n = codeB n.toNat ∧ numOk n = true) := by simp [Hid, numCode, numOk, h]
    rw [h] at IN
    rw [F.out.1, F.out.2]
    obtain ⟨h1, h2⟩ := inB_iff.1 h
    obtain ⟨k, rfl⟩ := Int.eq_ofNat_of_zero_le (show 0 ≤ n by omega)
    have CS := Lib.hid (fun V => code_any k V (by omega) (by omega))
    rw [Int.toNat_natCast]
    clear h F
    go_enter Tryd.func35, Tryd.ntmps35
    go_wp2_with (first | (go_at_call 67; refine (IN.out _).mono ?_; rintro e w' ⟨rfl, rfl⟩) | (go_at_call 68; refine (CS.out _).mono ?_; rintro e w' ⟨rfl, hb⟩))
    go_ret2
    exact ⟨rfl, hb⟩
end Go.Proofs.YtogefmkplkddoaaDoor

namespace Go.Proofs.YtogefmkplkddoaaDoor
open Go.RowKit

def bsz (v : Value) : Nat := match v with | .string b => b.size | _ => 0
theorem bsz_str (b : ByteArray) : bsz (.string b) = b.size := rfl
theorem ex_list (t : ByteArray) (a b : Nat) : (t.extract a b).data.toList = (t.data.toList.drop a).take (b - a) := by
  rw [← ByteArray.toList_eq]; exact Lib.extract_toList t a b
theorem ex_size (t : ByteArray) (a b : Nat) (h : b ≤ t.size) : (t.extract a b).size = b - a := by
  have h2 : (t.extract a b).data.toList.length = (t.extract a b).size := rfl
  rw [← h2, ex_list, List.length_take, List.length_drop]
  have : t.data.toList.length = t.size := rfl
  omega
theorem NmRes.yes {w w' : World} {s : ByteArray} {g c : Nat} {o : List Int} (h : nmO s = o ∧ nmB s = true) (ho : w'.ownsRow w.heap.size 2 1 (.slice (some ⟨g, 0, none⟩) o.length c) o.length (ints o)) (hb : Below w.heap.size w w') : NmRes w s (.returned (.tuple #[.slice (some ⟨g, 0, none⟩) o.length c, .bool true])) w' := by
  unfold NmRes
  rw [h.1, h.2]
  exact ⟨_, c, rfl, ho, hb⟩
theorem ba_eq {a b : ByteArray} (h : a.data.toList = b.data.toList) : a = b := by
  rw [← Lib.mk_data a, ← Lib.mk_data b, h]
theorem ex_at (t : ByteArray) (a b j : Nat) (hb : b ≤ t.size) (h : a + j < b) (h2 : j < (t.extract a b).size) : ((t.extract a b)[j]'h2) = t[a + j]'(by omega) := by
  have e := byte_at (t.extract a b) j h2
  rw [← e, ← byte_at t (a + j) (by omega), ex_list]
  simp only [List.getD_eq_getElem?_getD]
  rw [List.getElem?_take_of_lt (by omega), List.getElem?_drop]
set_option maxHeartbeats 400000 in
theorem numbersS_any (s : ByteArray) (w : World) (hs : s.size ≤ 1000000000) : Calls Tryd.prog 9 #[.string s] w (NmRes w s) := by
  have C := Lib.hid (l10numbers_any s w hs)
  cases h : nmB s
  · have F : Hid (nmO s = [] ∧ nmB s = false) := by
      refine ⟨?_, h⟩
      rw [nmB] at h; rw [nmO]
      cases e : nmR s with
      | none => rfl
      | some o => rw [e] at h; cases h
    go_enter Tryd.func9, Tryd.ntmps9
    go_wp2_with fail
    refine (C.out).mono ?_
    rintro e w' ⟨g, c, o, rfl, _, ho, hb⟩
    rw [h]
    clear ho
    go_wp2_with fail
    go_ret2
    exact NmRes.no F.out hb
  · go_enter Tryd.func9, Tryd.ntmps9
    go_wp2_with fail
    refine (C.out).mono ?_
    rintro e w' ⟨g, c, o, rfl, hf, ho, hb⟩
    have F := Lib.hid (And.intro (hf h) h)
    have HO := Lib.hid ho
    rw [h]
    clear ho hf
    go_wp2_with fail
    go_ret2
    exact NmRes.yes F.out HO.out hb
set_option maxRecDepth 100000 in
set_option maxHeartbeats 2000000 in
theorem numbers_any (s : ByteArray) (w : World) (hs : s.size ≤ 1000000000) : Calls Tryd.prog 37 #[.string s] w (NmRes w s) := by
  by_cases hbig : 2000 < s.size
  · have t0 : (2000 : Int) < (s.size : Int) := by omega
    have F := Lib.hid (nm_no (s := s) (by rw [nmR, if_neg (by omega)]))
    go_enter Tryd.func37, Tryd.ntmps37
    go_wp2_with fail
    go_ret2
    exact NmRes.no F.out (Ext.refl _)
  obtain ⟨w1, hw1⟩ : ∃ w1, w.alloc (.cells #[] 2) = w1 := ⟨_, rfl⟩
  have O1 : w1.ownsRow w.heap.size 2 1 (.slice (some ⟨w.heap.size, 0, none⟩) 0 0) 0 (ints []) := by rw [← hw1]; exact World.ownsRow_lit (e := 2) (size := 1) w #[] 0 (Nat.le_refl _) (by decide) rfl
  have B1 : Below w.heap.size w w1 := by rw [← hw1]; exact Ext.more (Ext.refl _) _
  have HW1 := Lib.hid hw1
  have t0 : ¬ (2000 : Int) < (s.size : Int) := by omega
  have RR : Hid (nmR s = nmV s.data.toList) := by rw [Hid, nmR, if_pos (by omega)]
  have V0 : Hid (nmV s.data.toList = (nmV s.data.toList).map (([] : List Int) ++ ·)) := by
    rw [Hid]; cases nmV s.data.toList <;> rfl
  have TR := Lib.hid (fun (t : ByteArray) V (h : t.size ≤ 1000000) => trim_any t [48, 49] V h (by decide) (by decide))
  have hs2 : s.size ≤ 2000 := by omega
  clear hw1 hbig
  go_enter Tryd.func37, Tryd.ntmps37
  go_wp2_with fail
  try simp only [HW1.out]
  go_loopw [0, 4, 5, 6, 8] (fun sv ov _ _ _ wr => ∃ (t : ByteArray) (g c : Nat) (o : List Int), sv = .string t ∧ ov = .slice (some ⟨g, 0, none⟩) o.length c ∧ Hid (nmV s.data.toList = (nmV t.data.toList).map (o ++ ·)) ∧ o.length + t.size ≤ 2000 ∧
    wr.ownsRow w.heap.size 2 1 (.slice (some ⟨g, 0, none⟩) o.length c) o.length (ints o) ∧ Below w.heap.size w wr) (fun sv _ _ _ _ _ => bsz sv)
  case atStart => exact ⟨s, _, _, [], rfl, rfl, V0, by simp; omega, O1, B1⟩
  case round =>
    obtain ⟨t, g, c, o, rfl, rfl, hV, hsz, hown, hb⟩ := hrel
    clear O1 B1
    have HOW := Lib.hid hown
    have gl := hown.lt g rfl
    clear hown
    by_cases hte : t.size = 0
    · have e0 : t.data.toList = [] := List.eq_nil_of_length_eq_zero hte
      have NEt : t.toList.isEmpty = true := by rw [ByteArray.toList_eq, e0]; rfl
      have F := Lib.hid (nm_yes (s := s) (o := o) (by rw [RR.out, hV.out, e0, nmV_nil]; simp [Option.map]))
      clear hte e0
      go_wp2_with fail
      go_ret2
      exact NmRes.yes F.out HOW.out hb
    have hne : Hid (t.data.toList ≠ []) := fun e => hte (by have := congrArg List.length e; exact this)
    have NEt : t.toList.isEmpty = false := by
      rw [ByteArray.toList_eq]; cases e : t.data.toList with | nil => exact absurd e hne.out | cons => rfl
    have BADR : Hid (nmStep t.data.toList = none → nmO s = [] ∧ nmB s = false) := fun h => nm_no (by rw [RR.out, hV.out, nmV_bad hne.out h]; rfl)
    have IB := Lib.hid (fun V => (Tryd.strings_IndexByte t 49 V).mono (fun e w' hh => (show e = .returned (.int .i64 (Lib.indexByte t.data.toList 49)) ∧ V = w' from ⟨hh.1, hh.2.symm⟩)))
    have hlen : t.data.toList.length = t.size := rfl
    rcases idx_spec t.data.toList with ⟨x1, x2⟩ | ⟨k, x1, x2, x3, x4⟩
    · have F := Lib.hid (BADR.out (step_no1 x2))
      rw [x1] at IB
      clear x1 x2 hlen hte
      go_wp2_with fail
      refine (IB.out _).mono ?_
      rintro e w' ⟨rfl, rfl⟩
      go_wp2_with fail
      go_ret2
      exact NmRes.no F.out hb
    rw [x1] at IB
    rw [hlen] at x2
    have k0 : ¬ (k : Int) < 0 := by omega
    by_cases h30 : 30 < k
    · have F := Lib.hid (BADR.out (step_far (by rw [hlen]; exact x2) x3 x4 (.inl (by omega))))
      have q1 : (30 : Int) < (k : Int) := by omega
      clear x1 x3 x4 hlen hte
      go_wp2_with fail
      refine (IB.out _).mono ?_
      rintro e w' ⟨rfl, rfl⟩
      go_wp2_with fail
      go_ret2
      exact NmRes.no F.out hb
    have q1 : ¬ (30 : Int) < (k : Int) := by omega
    by_cases hsh : t.size < 2 * k + 1
    · have F := Lib.hid (BADR.out (step_far (by rw [hlen]; exact x2) x3 x4 (.inr (by rw [hlen]; exact hsh))))
      have q2 : (t.size : Int) < 2 * (k : Int) + 1 := by omega
      clear x1 x3 x4 hlen hte
      go_wp2_with fail
      refine (IB.out _).mono ?_
      rintro e w' ⟨rfl, rfl⟩
      go_wp2_with fail
      go_ret2
      exact NmRes.no F.out hb
    have q2 : ¬ (t.size : Int) < 2 * (k : Int) + 1 := by omega
    obtain ⟨r, hr⟩ : ∃ r, 2 * k + 1 = r := ⟨_, rfl⟩
    have er : 2 * (k : Int) + 1 = (r : Int) := by omega
    have r0 : (0 : Int) ≤ (r : Int) := by omega
    have r1 : (r : Int) ≤ (t.size : Int) := by omega
    have rN : r ≤ t.size := by omega
    rw [er] at q2
    have TX := Lib.hid (fun V => TR.out (t.extract 0 r) V (by rw [ex_size t 0 r rN]; omega))
    have TL : Hid (Lib.trimS (t.extract 0 r).data.toList [48, 49] = [] ↔ bitL (t.data.toList.take (2 * k + 1))) := by
      rw [Hid, trimS_nil, ex_list, List.drop_zero, Nat.sub_zero, hr]
      unfold bitL
      exact ⟨fun h b hb => by simpa using h b hb, fun h b hb => by simpa using h b hb⟩
    generalize Lib.trimS (t.extract 0 r).data.toList [48, 49] = tb at *
    have TE : (ByteArray.mk tb.toArray).toList.isEmpty = tb.isEmpty := by rw [ByteArray.toList_eq]
    generalize ByteArray.mk tb.toArray = ts at TX TE
    by_cases hbit : bitL (t.data.toList.take (2 * k + 1))
    case neg =>
      have F := Lib.hid (BADR.out (step_odd (by rw [hlen]; exact x2) x3 x4 (by rw [hlen]; omega) hbit))
      have htb : tb ≠ [] := fun e => hbit (TL.out.1 e)
      have NE : ts.toList.isEmpty = false := by rw [TE]; cases tb with | nil => exact absurd rfl htb | cons => rfl
      clear x1 x3 x4 hlen hte hbit htb TE TL
      go_wp2_with fail
      refine (IB.out _).mono ?_
      rintro e w' ⟨rfl, rfl⟩
      go_wp2_with fail
      refine (TX.out _).mono ?_
      rintro e w5 ⟨rfl, hb5⟩
      go_wp2_with fail
      go_ret2
      exact NmRes.no F.out (Ext.then_ hb hb5)
    have htb : tb = [] := TL.out.2 hbit
    have NE : ts.toList.isEmpty = true := by rw [TE, htb]; rfl
    obtain ⟨g1, g2, g3, g4⟩ := step_good (by rw [hlen]; exact x2) x3 x4 (by rw [hlen]; omega) hbit
    have hb01 := (all_take (bs := t.data.toList) (m := 2 * k + 1) (by rw [hlen]; omega)).1 (bits_iff.2 hbit)
    have FAR : Hid (29 < k → nmStep t.data.toList = none) := fun h => step_far (by rw [hlen]; exact x2) x3 x4 (.inl h)
    have kr : k ≤ r := by omega
    have US : Hid ((t.extract k r).size = k + 1) := by rw [Hid, ex_size t k r rN]; omega
    have UB : Hid (∀ j (h : j < (t.extract k r).size), ((t.extract k r)[j]'h = 48 ∨ (t.extract k r)[j]'h = 49) ∧ (t.data.toList.drop k).getD j 0 = (t.extract k r)[j]'h) := fun j h => by
      have hj : j < k + 1 := by have := US.out; omega
      have e := ex_at t k r j rN (by omega) h
      have e2 := byte_at t (k + j) (by omega)
      refine ⟨?_, ?_⟩
      · rw [e, ← e2]; exact hb01 (k + j) (by omega)
      · rw [e, ← e2]; simp only [List.getD_eq_getElem?_getD, List.getElem?_drop]
    have CE : Hid (codeB (vTo (t.data.toList.drop k) (k + 1)) = t.extract 0 r) := ba_eq (by
      show codeL _ = _
      rw [g4, ex_list, List.drop_zero, Nat.sub_zero, hr])
    have G1 := Lib.hid g1
    have hpw : 2 ^ (k + 1) ≤ 2 ^ 31 := Nat.pow_le_pow_right (by decide) (by omega)
    have vmax : vTo (t.data.toList.drop k) (k + 1) < 2147483648 := Nat.lt_of_lt_of_le g3 hpw
    have vlo : k = 30 → 1000000000 < vTo (t.data.toList.drop k) (k + 1) := fun e => by
      have : 2 ^ 30 ≤ vTo (t.data.toList.drop k) (k + 1) := by rw [← e]; rw [e] at g2 ⊢; exact g2
      omega
    have v1 : 1 ≤ vTo (t.data.toList.drop k) (k + 1) := Nat.le_trans (Nat.one_le_two_pow) g2
    have HVL := Lib.hid (And.intro vlo v1)
    have HVM := Lib.hid vmax
    have kr0 : (0 : Int) ≤ (k : Int) := by omega
    have kr1 : (k : Int) ≤ (r : Int) := by omega
    clear x1 x3 x4 hlen hte hbit htb TE TL g1 g2 g3 g4 hb01 hpw vlo v1 vmax
    go_wp2_with fail
    refine (IB.out _).mono ?_
    rintro e w' ⟨rfl, rfl⟩
    go_wp2_with fail
    refine (TX.out _).mono ?_
    rintro e w5 ⟨rfl, hb5⟩
    have B5 := Ext.then_ hb hb5
    have HO5 := Lib.hid (own_ext hb5 HOW.out)
    have z5 := B5.size
    have y5 := hb5.size
    clear hb hb5 HOW
    go_wp2_with fail
    go_loopw [6, 8] (fun nv _ wq => ∃ j : Nat, j ≤ k + 1 ∧ wq = w5.iter (t.extract k r) j ∧ nv = .int .i64 ((vTo (t.data.toList.drop k) j : Nat) : Int) ∧ vTo (t.data.toList.drop k) j < 2 ^ j) (fun _ _ wq => k + 1 - wq.iterPos w5.heap.size)
    case atStart => exact ⟨0, by omega, rfl, rfl, Nat.one_pos⟩
    case round =>
      obtain ⟨j, hj, rfl, rfl, hv2⟩ := hrel
      by_cases hjl : j < k + 1
      · have hju : j < (t.extract k r).size := by rw [US.out]; exact hjl
        obtain ⟨hbt, hgd⟩ := UB.out j hju
        have hp2 : 2 ^ j ≤ 2 ^ 30 := Nat.pow_le_pow_right (by decide) (by omega)
        have hv30 : vTo (t.data.toList.drop k) j < 1073741824 := Nat.lt_of_lt_of_le hv2 hp2
        have VS : Hid (vTo (t.data.toList.drop k) (j + 1) = 2 * vTo (t.data.toList.drop k) j + (((t.data.toList.drop k).getD j 0).toNat - 48)) := rfl
        have P2 : Hid (2 ^ (j + 1) = 2 * 2 ^ j) := by rw [Hid, Nat.pow_succ]; omega
        rcases hbt with h | h
        · have hnx : ∀ ty, (Instr.next (.pointer (some ⟨w5.heap.size, 0, none⟩)) true ty).run Tryd.prog (w5.iter (t.extract k r) j) = .ok (.tuple #[.bool true, .int .i64 j, .int .i32 48]) (w5.iter (t.extract k r) (j + 1)) := fun ty => by
            rw [run_next_any w5 (t.extract k r) j ty hju, decode_ascii _ _ hju (by rw [h]; decide), h]; rfl
          have VT : Hid (vTo (t.data.toList.drop k) (j + 1) = 2 * vTo (t.data.toList.drop k) j) := by rw [Hid, VS.out, hgd, h]; rfl
          have L2 : Hid (vTo (t.data.toList.drop k) (j + 1) < 2 ^ (j + 1)) := by rw [Hid, VT.out, P2.out]; omega
          clear h hgd VS hp2 hju
          generalize vTo (t.data.toList.drop k) j = v at *
          go_wp2_with fail
          go_roundw
          case rel => exact ⟨j + 1, by omega, rfl, by rw [VT.out]; go_num, L2.out⟩
          case measure => simp; omega
        · have hnx : ∀ ty, (Instr.next (.pointer (some ⟨w5.heap.size, 0, none⟩)) true ty).run Tryd.prog (w5.iter (t.extract k r) j) = .ok (.tuple #[.bool true, .int .i64 j, .int .i32 49]) (w5.iter (t.extract k r) (j + 1)) := fun ty => by
            rw [run_next_any w5 (t.extract k r) j ty hju, decode_ascii _ _ hju (by rw [h]; decide), h]; rfl
          have VT : Hid (vTo (t.data.toList.drop k) (j + 1) = 2 * vTo (t.data.toList.drop k) j + 1) := by rw [Hid, VS.out, hgd, h]; rfl
          have L2 : Hid (vTo (t.data.toList.drop k) (j + 1) < 2 ^ (j + 1)) := by rw [Hid, VT.out, P2.out]; omega
          clear h hgd VS hp2 hju
          generalize vTo (t.data.toList.drop k) j = v at *
          go_wp2_with fail
          go_roundw
          case rel => exact ⟨j + 1, by omega, rfl, by rw [VT.out]; go_num, L2.out⟩
          case measure => simp; omega
      · obtain rfl : j = k + 1 := by omega
        have hnx : ∀ ty, (Instr.next (.pointer (some ⟨w5.heap.size, 0, none⟩)) true ty).run Tryd.prog (w5.iter (t.extract k r) (k + 1)) = _ := fun ty => run_next_end w5 (t.extract k r) (k + 1) ty (by rw [US.out]; omega)
        have B6 : Below w.heap.size w (w5.iter (t.extract k r) (k + 1)) := Ext.more B5 (.stringIter (t.extract k r) (k + 1))
        have B56 : Below w5.heap.size w5 (w5.iter (t.extract k r) (k + 1)) := Ext.more (Ext.refl _) (.stringIter (t.extract k r) (k + 1))
        have HO6 := Lib.hid (own_ext B56 HO5.out)
        have vm := HVM.out
        obtain ⟨vlo, v1⟩ := HVL.out
        clear hv2 UB
        generalize vTo (t.data.toList.drop k) (k + 1) = v at *
        have IN := Lib.hid (fun V => in_any (v : Int) 1 1000000000 V)
        have e1 : IntKind.i64.wrap (2 * (k : Int)) = 2 * (k : Int) := IntWalk.i64_in _ (by omega)
        have e2 : IntKind.i64.wrap (2 * (k : Int) + 1) = (r : Int) := by rw [er]; exact IntWalk.i64_in _ (by omega)
        obtain ⟨w6, hw6⟩ : ∃ w6, w5.iter (t.extract k r) (k + 1) = w6 := ⟨_, rfl⟩
        rw [hw6] at B6 HO6
        have HW6 := Lib.hid hw6
        by_cases hmax : v ≤ 1000000000
        · have k29 : k ≤ 29 := by
            by_cases h : k = 30
            · have := vlo h; omega
            · omega
          rw [show inB (v : Int) 1 1000000000 = true from inB_true (by omega) (by omega)] at IN
          have CD := Lib.hid (fun V => code_any v V (by omega) (by omega))
          rw [CE.out] at CD
          have ee : ((t.extract 0 r).toList == (t.extract 0 r).toList) = true := by simp
          have V2 : Hid (nmV s.data.toList = (nmV (t.extract r t.size).data.toList).map ((o ++ [(v : Int)]) ++ ·)) := by
            rw [Hid, hV.out, nmV_good hne.out (by rw [G1.out k29, if_pos hmax]), map_snoc, ex_list, hr]
            congr 2
            rw [List.take_of_length_le (by rw [List.length_drop]; exact Nat.le_refl _)]
          have rS : (t.extract r t.size).size = t.size - r := ex_size t r t.size (Nat.le_refl _)
          have HRS := Lib.hid rS
          have HL : Hid ((o ++ [(v : Int)]).length = o.length + 1) := by simp [Hid]
          have hr1 : 1 ≤ r := by omega
          clear vlo hw6 B56 FAR BADR HVL HVM rS
          go_wp2_with fail
          try simp only [HW6.out]
          refine wp_region_held_quiet (fun U => Below w6.heap.size w6 U) (by kernel_rfl) (by kernel_rfl) (Ext.refl _).drew ?_
          have ne : Nonempty (HeldW (fun U => Below w6.heap.size w6 U)) := ⟨⟨w6, Ext.refl _⟩⟩
          repeat (go_big_quiet_step ((first | (go_at_call 67; exact Calls.above_of _ (Calls.lift (IN.out _))) | (go_at_call 68; exact Calls.above_of _ (CD.out _)))))
          refine wpQuiet_nil ?_
          intro w7 hw'
          obtain ⟨⟨_, hb7⟩, rfl⟩ := hw'
          clear ne 
          have B7 := Ext.then_ B6 hb7
          have OX := Lib.hid (fun V (h : Below w7.heap.size w7 V) => own_ext h (own_ext hb7 HO6.out))
          have z7 := B7.size
          have g7 : g < w7.heap.size := by have := hb7.size; have := (HO6.out.lt g rfl).2; omega
          clear hb7 B6 HO6 ee
          have e3 : IntKind.i64.wrap (r : Int) = (r : Int) := IntWalk.i64_in _ (by omega)
          go_wp2_with fail
          go_region_law (first
            | (refine step_app intT (by rfl) _ _ (by rfl) w.heap.size (.slice (some ⟨g, 0, none⟩) o.length c) o.length (ints o) (by rfl) (OX.out _ (Ext.more (Ext.draw (Ext.refl _)) _)) _ #[.int .i64 v] (by rfl) (heap_alloc_new _ _) rfl (by simp [Value.oneCell']) (by omega) (by simp; omega) ?_; intro g8 c8 w8 own8 hg8 hat8 hlt8))
          all_goals
            have B8 : Below w.heap.size w w8 := (Ext.more (Ext.draw B7) _).grown hg8 (by simp; omega) (fun z hz => by simp [Value.ownBlock] at hz; omega)
            have HO8 := Lib.hid (own_i64 own8 (Nat.le_refl _) (ys := ints (o ++ [(v : Int)])) (m := (o ++ [(v : Int)]).length) (by rw [ints_snoc]) (by simp))
            clear own8 hg8 hat8 hlt8
            go_wp2_with fail
            go_simp
            exact ⟨⟨_, _, _, _, ⟨t.extract r t.size, rfl, g8, c8, o ++ [(v : Int)], by rw [HL.out], V2, by rw [HL.out, HRS.out]; omega, HO8.out⟩, rfl, rfl, rfl, rfl⟩, by rw [bsz_str, bsz_str, HRS.out]; omega⟩
        · have F := Lib.hid (BADR.out (by
            by_cases h : 29 < k
            · exact FAR.out h
            · rw [G1.out (by omega), if_neg hmax]))
          rw [show inB (v : Int) 1 1000000000 = false from inB_not.2 (by omega)] at IN
          clear vlo hw6 B56 FAR BADR HVL HVM
          go_wp2_with fail
          try simp only [HW6.out]
          refine wp_region_held_quiet (fun U => Below w6.heap.size w6 U) (by kernel_rfl) (by kernel_rfl) (Ext.refl _).drew ?_
          have ne : Nonempty (HeldW (fun U => Below w6.heap.size w6 U)) := ⟨⟨w6, Ext.refl _⟩⟩
          repeat (go_big_quiet_step ((go_at_call 67; exact Calls.above_of _ (Calls.lift (IN.out _)))))
          refine wpQuiet_nil ?_
          intro w7 hw'
          obtain ⟨⟨_, hb7⟩, rfl⟩ := hw'
          clear ne 
          have B7 := Ext.then_ B6 hb7
          go_wp2_with fail
          go_ret2
          exact NmRes.no F.out B7
set_option maxHeartbeats 400000 in
theorem numbersI_any (s : ByteArray) (w : World) (hs : s.size ≤ 1000000000) : Calls Tryd.prog 10 #[.string s] w (NmRes w s) := by
  have C := Lib.hid (numbers_any s w hs)
  go_enter Tryd.func10, Tryd.ntmps10
  go_wp2_with fail
  refine (C.out).mono ?_
  rintro e w' ⟨A, c, rfl, ho, hb⟩
  have HO := Lib.hid ho
  clear ho
  go_wp2_with fail
  go_ret2
  exact ⟨A, c, rfl, HO.out, hb⟩
end Go.Proofs.YtogefmkplkddoaaDoor
