/- Texts cut at marks: the reference's. -/
import Derived.Test.YtgbciimfpahekaaDoorJnP
import Derived.Test.YtgbciimfpahekaaDoorTold
namespace Go.Proofs.YtgbciimfpahekaaDoor
open Go.RowKit

def mkB (l : List UInt8) : ByteArray := ⟨l.toArray⟩
theorem bl_mkB (l : List UInt8) : bl (mkB l) = l := by simp [bl, mkB]
theorem mkB_bl (s : ByteArray) : mkB (bl s) = s := by
  apply ByteArray.ext
  simp [mkB, bl]
theorem bl_ext (t : ByteArray) (a b : Nat) : bl (t.extract a b) = ((bl t).drop a).take (b - a) := by
  rw [bl, ← ByteArray.toList_eq]; exact Lib.extract_toList t a b
theorem ext_mkB (t : ByteArray) (a b : Nat) : t.extract a b = mkB (((bl t).drop a).take (b - a)) := by
  rw [← bl_ext, mkB_bl]
theorem mkB_size (l : List UInt8) : (mkB l).size = l.length := by simp [mkB, ByteArray.size]
theorem bl_at (s : ByteArray) (i : Nat) (h : i < s.size) : (bl s)[i]'h = s[i] := rfl
/-- A list of texts, as cells. -/
def txs (o : List (List UInt8)) : List Value := strs (o.map mkB)
theorem txs_snoc (o : List (List UInt8)) (l : List UInt8) : txs (o ++ [l]) = txs o ++ [.string (mkB l)] := by simp [txs, strs]
theorem txs_length (o : List (List UInt8)) : (txs o).length = o.length := by simp [txs, strs]
theorem txs_at (o : List (List UInt8)) (i : Nat) (h : i < o.length) : (txs o)[i]? = some (.string (mkB o[i])) := by simp [txs, strs, h]
theorem own_str {w : World} {base base' g n cap : Nat} {xs : List Value} (h : w.ownsRow base 9 1 (.slice (some ⟨g, 0, none⟩) n cap) n xs) (hb : base' ≤ base) {ys : List Value} {m : Nat} (hx : xs = ys) (hn : n = m) : w.ownsRow base' 9 1 (.slice (some ⟨g, 0, none⟩) m cap) m ys := by
  subst hx hn; exact own_base h hb
/-- How far the cutting of s has come: from, to, the parts so far. -/
def CutI (b : UInt8) (s : ByteArray) (f i : Nat) (o : List (List UInt8)) : Prop :=
  (i ≤ s.size ∧ f ≤ i ∧ cutL b (bl s) = o ++ cutL b ((bl s).drop f) ∧ ∀ j (h : j < s.size), f ≤ j → j < i → s[j] ≠ b) ∨ (i = s.size + 1 ∧ o = cutL b (bl s))
section
variable {b : UInt8} {s : ByteArray} {f i : Nat} {o : List (List UInt8)}
theorem CutI.start : CutI b s 0 0 [] := .inl ⟨Nat.zero_le _, Nat.le_refl _, by simp, fun _ _ _ h => absurd h (Nat.not_lt_zero _)⟩
theorem fnd_from (hf : f ≤ i) (hi : i ≤ s.size) (hn : ∀ j (h : j < s.size), f ≤ j → j < i → s[j] ≠ b) (hb : ∀ h : i < s.size, s[i] = b) : fnd b ((bl s).drop f) = i - f := by
  have hl : ((bl s).drop f).length = s.size - f := by rw [List.length_drop, bl_len]
  refine fnd_is (by omega) (fun j hj hlt => ?_) (fun h => ?_)
  · rw [List.getElem_drop]
    exact hn (f + j) (by omega) (by omega) (by omega)
  · rw [List.getElem_drop]
    have := hb (by omega)
    simp only [show f + (i - f) = i by omega]
    exact this
theorem CutI.hit (h : CutI b s f i o) (hi : i < s.size) (hb : s[i] = b) : CutI b s (i + 1) (i + 1) (o ++ [((bl s).drop f).take (i - f)]) := by
  rcases h with ⟨_, hf, hc, hn⟩ | ⟨h, _⟩
  · have e := fnd_from hf (by omega) hn (fun _ => hb)
    have hl : ((bl s).drop f).length = s.size - f := by rw [List.length_drop, bl_len]
    refine .inl ⟨by omega, Nat.le_refl _, ?_, fun j h h1 h2 => absurd h1 (by omega)⟩
    rw [hc, cutL_hit (by rw [e]; omega), e, List.drop_drop, show f + (i - f + 1) = i + 1 by omega]
    simp
  · omega
theorem CutI.last (h : CutI b s f i o) (hi : i = s.size) : CutI b s (i + 1) (i + 1) (o ++ [((bl s).drop f).take (i - f)]) := by
  rcases h with ⟨_, hf, hc, hn⟩ | ⟨h, _⟩
  · have e := fnd_from hf (by omega) hn (fun h => absurd h (by omega))
    have hl : ((bl s).drop f).length = s.size - f := by rw [List.length_drop, bl_len]
    refine .inr ⟨by omega, ?_⟩
    rw [hc, cutL_end (by rw [e]; omega), List.take_of_length_le (by omega)]
  · omega
theorem CutI.skip (h : CutI b s f i o) (hi : i < s.size) (hb : s[i] ≠ b) : CutI b s f (i + 1) o := by
  rcases h with ⟨_, hf, hc, hn⟩ | ⟨h, _⟩
  · refine .inl ⟨by omega, by omega, hc, fun j h h1 h2 => ?_⟩
    rcases Nat.lt_succ_iff_lt_or_eq.1 h2 with h3 | rfl
    · exact hn j h h1 h3
    · exact hb
  · omega
theorem CutI.end_ (h : CutI b s f i o) (hi : ¬ i ≤ s.size) : o = cutL b (bl s) := by
  rcases h with ⟨h, _⟩ | ⟨_, h⟩
  · exact absurd h hi
  · exact h
theorem CutI.le (h : CutI b s f i o) : i ≤ s.size → f ≤ i := by
  rcases h with ⟨_, hf, _⟩ | ⟨h, _⟩
  · exact fun _ => hf
  · omega
theorem CutI.few (h : CutI b s f i o) : i ≤ s.size + 1 := by
  rcases h with ⟨h, _⟩ | ⟨h, _⟩ <;> omega
end
theorem byte_ne {a b : UInt8} (h : a ≠ b) : (((a.toNat : Nat) : Int) == ((b.toNat : Nat) : Int)) = false := by
  rw [beq_eq_false_iff_ne]; intro e; exact h (UInt8.toNat_inj.1 (by omega))
set_option maxRecDepth 100000 in
set_option maxHeartbeats 1000000 in
theorem cutS_any (s : ByteArray) (b : UInt8) (w : World) (hs : s.size ≤ 1000000) :
    Calls Tryd.prog 40 #[.string s, .int .u8 b.toNat] w fun e w' => ∃ g c, e = .returned (.slice (some ⟨g, 0, none⟩) (cutL b (bl s)).length c) ∧
      w'.ownsRow w.heap.size 9 1 (.slice (some ⟨g, 0, none⟩) (cutL b (bl s)).length c) (cutL b (bl s)).length (txs (cutL b (bl s))) ∧ Below w.heap.size w w' := by
  obtain ⟨w1, hw1⟩ : ∃ w1, w.alloc (.cells #[] 9) = w1 := ⟨_, rfl⟩
  have O1 : w1.ownsRow w.heap.size 9 1 (.slice (some ⟨w.heap.size, 0, none⟩) 0 0) 0 (txs []) := by rw [← hw1]; exact World.ownsRow_lit (e := 9) (size := 1) w #[] 0 (Nat.le_refl _) (by decide) rfl
  have B1 : Below w.heap.size w w1 := by rw [← hw1]; exact Ext.more (Ext.refl _) _
  have HW1 := Lib.hid hw1
  have CL := Lib.hid (cutL_len b s.size (bl s) (Nat.le_of_eq (bl_len s)))
  clear hw1
  go_enter Tryd.func40, Tryd.ntmps40
  go_wp2_with fail
  try simp only [HW1.out]
  go_loopw [5, 6, 7] (fun ov fv iv wr => ∃ (f i n g c : Nat) (o : List (List UInt8)), iv = .int .i64 i ∧ fv = .int .i64 f ∧ ov = .slice (some ⟨g, 0, none⟩) n c ∧ Hid (CutI b s f i o ∧ o.length = n) ∧ n ≤ i ∧ f ≤ s.size + 1 ∧
    wr.ownsRow w.heap.size 9 1 (.slice (some ⟨g, 0, none⟩) n c) n (txs o) ∧ Below w.heap.size w wr) (fun _ _ iv _ => s.size + 1 - (intOf iv).toNat)
  case atStart => exact ⟨0, 0, 0, _, _, [], rfl, rfl, rfl, ⟨CutI.start, rfl⟩, Nat.le_refl _, Nat.zero_le _, O1, B1⟩
  case round =>
    obtain ⟨f, i, n, g, c, o, rfl, rfl, rfl, hI, hn, hf, hown, hb⟩ := hrel
    clear O1 B1
    have HOW := Lib.hid hown
    have gl := hown.lt g rfl
    have few := hI.out.1.few
    have hz := hb.size
    clear hown
    by_cases hle : i ≤ s.size
    · have hfi := hI.out.1.le hle
      have q0 : (i : Int) ≤ (s.size : Int) := by omega
      have EX : Hid (s.extract f i = mkB (((bl s).drop f).take (i - f))) := ext_mkB _ _ _
      by_cases hhit : ∀ h : i < s.size, s[i] = b
      · have NI : Hid (CutI b s (i + 1) (i + 1) (o ++ [((bl s).drop f).take (i - f)]) ∧ (o ++ [((bl s).drop f).take (i - f)]).length = n + 1) := by
          refine ⟨?_, by rw [List.length_append, hI.out.2]; rfl⟩
          by_cases h : i < s.size
          · exact hI.out.1.hit h (hhit h)
          · exact hI.out.1.last (by omega)
        have TS := Lib.hid (txs_snoc o (((bl s).drop f).take (i - f)))
        rw [← EX.out] at TS
        have CS : i = s.size ∨ (i < s.size ∧ ∃ h : i < s.size, ((s[i].toNat : Nat) : Int) = ((b.toNat : Nat) : Int)) := by
          by_cases h : i < s.size
          · exact .inr ⟨h, h, by rw [hhit h]⟩
          · exact .inl (by omega)
        have f0 : (0 : Int) ≤ (f : Int) := by omega
        have f1 : (f : Int) ≤ (i : Int) := by omega
        clear hhit EX
        have i0 : (0 : Int) ≤ (i : Int) := by omega
        have hb' : Below w.heap.size w (wr.alloc (.cells #[.string (s.extract f i)] 9)) := Ext.more hb _
        rcases CS with h1 | ⟨h1, h2, h3⟩
        case' inl => have t1 : ((i : Int) == (s.size : Int)) = true := by rw [beq_iff_eq]; omega
        case' inl => have q1 : (i : Int) ≤ (s.size : Int) := by omega
        case' inl => clear h1
        case' inr => have t1 : ((i : Int) == (s.size : Int)) = false := by rw [beq_eq_false_iff_ne]; omega
        case' inr => have q1 : (i : Int) < (s.size : Int) := by omega
        all_goals
          go_wp2_with (at_builtin; refine wpList_app strT (by rfl) _ _ (by rfl) w.heap.size (.slice (some ⟨g, 0, none⟩) n c) n (txs o) (by rfl) (HOW.out.alloc _) wr.heap.size #[.string (s.extract f i)] (by rfl) (heap_alloc_new _ _) rfl (by simp [Value.oneCell']) (by omega) (by simp; omega) ?_; intro g5 c5 w5 own5 hg5 hat5 hlt5)
          have B5 : Below w.heap.size w w5 := hb'.grown hg5 (by simp; omega) (fun z hz => by simp [Value.ownBlock] at hz; omega)
          have HO := Lib.hid (own_str own5 (Nat.le_refl _) (ys := txs (o ++ [((bl s).drop f).take (i - f)])) TS.out.symm rfl)
          clear own5 hg5 hat5 hlt5
          go_wp2_with fail
          go_roundw
          case rel => exact ⟨i + 1, i + 1, n + 1, g5, c5, o ++ [((bl s).drop f).take (i - f)], by go_num, by go_num, rfl, NI.out, by omega, by omega, HO.out, B5⟩
          case measure => simp [intOf]; omega
      · have h1 : i < s.size := by
          by_cases h : i < s.size
          · exact h
          · exact absurd (fun h' => absurd h' h) hhit
        have t1 : ((i : Int) == (s.size : Int)) = false := by
          clear hhit
          rw [beq_eq_false_iff_ne]; omega
        have q1 : (i : Int) < (s.size : Int) := by
          clear hhit
          omega
        have h2 : s[i] ≠ b := fun e => hhit (fun _ => e)
        have SK := Lib.hid (hI.out.1.skip h1 h2)
        have HL := Lib.hid hI.out.2
        have t2 := byte_ne h2
        have i0 : (0 : Int) ≤ (i : Int) := by omega
        clear hhit h2 hI EX
        go_wp2_with fail
        go_roundw
        case rel => exact ⟨f, i + 1, n, g, c, o, by go_num, rfl, rfl, ⟨SK.out, HL.out⟩, by omega, hf, HOW.out, hb⟩
        case measure => simp [intOf]; omega
    · have EQ := Lib.hid (hI.out.1.end_ hle)
      have HL := Lib.hid hI.out.2
      have q0 : ¬ (i : Int) ≤ (s.size : Int) := by omega
      clear hI
      go_wp2_with fail
      go_ret
      refine ⟨g, c, ?_, ?_, hb⟩
      · rw [← EQ.out, HL.out]; rfl
      · rw [← EQ.out, HL.out]; exact HOW.out
end Go.Proofs.YtgbciimfpahekaaDoor
