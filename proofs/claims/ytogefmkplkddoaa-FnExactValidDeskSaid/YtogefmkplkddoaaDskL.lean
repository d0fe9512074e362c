/- Desks, as the laws hand them on: sizes, copies, equality. -/
import Derived.Test.YtogefmkplkddoaaDskV
import Derived.Test.YtogefmkplkddoaaStx
import Derived.Test.YtogefmkplkddoaaOpenT
namespace Go.Proofs.Ytogefmkplkddoaa
open Go.ChangeShapes Go.WideShapes Go.ChangeAt Go.RowKit

set_option maxHeartbeats 400000 in
theorem strsSzB_any (A : Option Addr) (c : Nat) (rows : List ByteArray) (l0 : Nat) (hl : l0 ≤ 1048576) (w : World) (h : RdA w A (strs rows)) (hn : rows.length ≤ maxLen) (hsz : ∀ r ∈ rows, r.size ≤ maxLen) :
    Calls Try.prog 39 #[.slice A rows.length c, .int .i64 l0] w fun e w' => (∃ r : Int, e = .returned (.int .i64 r) ∧ (r < 0 ∨ strsSmall rows ∧ ∃ l : Nat, l ≤ 1048576 ∧ r = l)) ∧ Below w.heap.size w w' := by
  unfold maxLen at hn hsz
  have SZ := Lib.hid hsz
  clear hsz
  have HX := Lib.hid h.str
  clear h
  obtain ⟨n, hnL⟩ : ∃ n, rows.length = n := ⟨_, rfl⟩
  have HNL := Lib.hid hnL
  rw [hnL] at hn ⊢
  have i0 : IntKind.i64.wrap ((l0 : Int) - n) = (l0 : Int) - n := IntWalk.i64_in _ (by omega)
  by_cases h1 : (l0 : Int) - n < 0
  · clear hnL
    go_enter Try.func39, Try.ntmps39
    go_wp2_with fail
    go_ret
    exact ⟨⟨-1, rfl, .inl (by decide)⟩, Ext.refl _⟩
  · have t1 : ¬ ((l0 : Int) - n < 0) := h1
    have HLE : Hid (n ≤ 1048576) := by show n ≤ 1048576; omega
    clear hnL
    go_enter Try.func39, Try.ntmps39
    go_wp2_with fail
    go_loop [1, 5] (fun v i => ∃ (k : Nat) (l : Int), k ≤ n ∧ i = .int .i64 k ∧ v = .int .i64 l ∧ 0 ≤ l ∧ l ≤ 1048576 ∧ Hid (∀ j (h : j < rows.length), j < k → rows[j].size ≤ 1048576)) (fun _ i => n - (intOf i).toNat)
    case atStart => exact ⟨0, _, Nat.zero_le _, rfl, rfl, by omega, by omega, fun _ _ h => absurd h (Nat.not_lt_zero _)⟩
    case round =>
      obtain ⟨k, l, hk, rfl, rfl, hl0, hl1, hS⟩ := hrel
      by_cases hlt : k < n
      · have X := HX.out
        have hkr : k < rows.length := by have := HNL.out; omega
        obtain ⟨a, rfl, hg, hc⟩ := X (by omega)
        have c1 := hc k hkr
        clear hc X
        have hrz := SZ.out rows[k] (List.getElem_mem _)
        have S2 : Hid (rows[k].size ≤ 1048576 → ∀ j (h : j < rows.length), j < k + 1 → rows[j].size ≤ 1048576) := fun h j hj hjk => by
          rcases Nat.lt_succ_iff_lt_or_eq.1 hjk with h1 | rfl
          · exact hS.out j hj h1
          · exact h
        generalize rows[k] = r at *
        have i2 : (0 : Int) ≤ (k : Int) := by omega
        have i3 : (k : Int) < (n : Int) := by omega
        have hz : (0 : Int) ≤ (r.size : Int) := by omega
        clear hkr
        · have i4 : IntKind.i64.wrap (l - r.size) = l - r.size := IntWalk.i64_in _ (by omega)
          by_cases h2 : l - (r.size : Int) < 0
          · go_wp2_with fail
            go_ret
            exact ⟨⟨-1, rfl, .inl (by decide)⟩, Ext.refl _⟩
          · have S3 := Lib.hid (S2.out (by omega))
            go_wp2_with fail
            go_round
            case rel => exact ⟨k + 1, _, by omega, by go_num, rfl, by omega, by omega, S3⟩
            case measure => simp [intOf]; omega
      · obtain rfl : k = n := by omega
        have SM : Hid (strsSmall rows) := ⟨by rw [HNL.out]; exact HLE.out, fun r hr => by
          obtain ⟨j, hj, rfl⟩ := List.getElem_of_mem hr
          exact hS.out j hj (by have := HNL.out; omega)⟩
        clear hS
        go_wp2_with fail
        go_ret
        exact ⟨⟨l, rfl, .inr ⟨SM.out, l.toNat, by omega, by omega⟩⟩, Ext.refl _⟩
set_option maxHeartbeats 400000 in
theorem picSzB_any (A : Option Addr) (c : Nat) (rows : List ByteArray) (l0 : Nat) (hl : l0 ≤ 1048576) (w : World) (h : RdA w A (strs rows)) (hn : rows.length ≤ maxLen) (hsz : ∀ r ∈ rows, r.size ≤ maxLen) :
    Calls Try.prog 17 #[.agg #[.slice A rows.length c], .int .i64 l0] w fun e w' => (∃ r : Int, e = .returned (.int .i64 r) ∧ (r < 0 ∨ strsSmall rows ∧ ∃ l : Nat, l ≤ 1048576 ∧ r = l)) ∧ Below w.heap.size w w' := by
  have SZ := Lib.hid (fun V (hb : Below w.heap.size w V) => strsSzB_any A c rows l0 hl V (h.ext hb) hn hsz)
  have B0 : Below w.heap.size w (w.alloc (.cells #[.slice A rows.length c] 38)) := Ext.more (Ext.refl _) _
  clear h hn hsz
  generalize strsSmall rows = SS at *
  generalize rows.length = n at *
  go_enter Try.func17, Try.ntmps17
  go_wp2_with fail
  refine (SZ.out _ B0).mono ?_
  rintro e w' ⟨⟨r, rfl, hr⟩, hb⟩
  by_cases h0 : r < 0
  · go_wp2_with fail
    go_ret
    exact ⟨⟨-1, rfl, .inl (by decide)⟩, Ext.then_ B0 hb⟩
  · have HR := Lib.hid hr
    clear hr
    go_wp2_with fail
    go_ret
    exact ⟨⟨r, rfl, HR.out⟩, Ext.then_ B0 hb⟩

/-- A list of pictures that came in. -/
def PsRdA (w : World) (A : Option Addr) (ps : List (List ByteArray)) : Prop :=
  0 < ps.length → ∃ a, A = some a ∧ a.block < w.heap.size ∧ ∀ i (h : i < ps.length), ∃ Ai ci, w.cell? (a.add i) = some (.slice Ai ps[i].length ci) ∧ RdA w Ai (strs ps[i])
theorem PsRdA.ext {w w' : World} {A : Option Addr} {ps : List (List ByteArray)} (h : PsRdA w A ps) (hb : Below w.heap.size w w') : PsRdA w' A ps := by
  intro hn
  obtain ⟨g, e, hg, hc⟩ := h hn
  refine ⟨g, e, Nat.lt_of_lt_of_le hg hb.size, fun i hi => ?_⟩
  obtain ⟨Ai, ci, h1, h2⟩ := hc i hi
  exact ⟨Ai, ci, (hb.cell (by rw [Addr.add_block']; exact hg)).trans h1, h2.ext hb⟩
def psSmall (ps : List (List ByteArray)) : Prop := ps.length ≤ 1048576 ∧ ∀ p ∈ ps, strsSmall p
def psLen (ps : List (List ByteArray)) : Prop := ps.length ≤ maxLen ∧ ∀ p ∈ ps, p.length ≤ maxLen ∧ ∀ r ∈ p, r.size ≤ maxLen
set_option maxHeartbeats 400000 in
theorem psSz_any (A : Option Addr) (c : Nat) (ps : List (List ByteArray)) (l0 : Nat) (hl : l0 ≤ 1048576) (w : World) (h : PsRdA w A ps) (hn : psLen ps) :
    Calls Try.prog 46 #[.slice A ps.length c, .int .i64 l0] w fun e w' => (∃ r : Int, e = .returned (.int .i64 r) ∧ (r < 0 ∨ psSmall ps)) ∧ Below w.heap.size w w' := by
  obtain ⟨hn0, hn1⟩ := hn
  unfold maxLen at hn0
  have HX := Lib.hid (fun V (hb : Below w.heap.size w V) => h.ext hb)
  have LN := Lib.hid hn1
  clear h hn1
  obtain ⟨n, hnL⟩ : ∃ n, ps.length = n := ⟨_, rfl⟩
  have HN := Lib.hid hnL
  rw [hnL] at hn0 ⊢
  clear hnL
  have i0 : IntKind.i64.wrap ((l0 : Int) - n) = (l0 : Int) - n := IntWalk.i64_in _ (by omega)
  by_cases h1 : (l0 : Int) - n < 0
  · go_enter Try.func46, Try.ntmps46
    go_wp2_with fail
    go_ret
    exact ⟨⟨-1, rfl, .inl (by decide)⟩, Ext.refl _⟩
  · have HLE : Hid (n ≤ 1048576) := by show n ≤ 1048576; omega
    have e0 : (l0 : Int) - n = ((l0 - n : Nat) : Int) := by omega
    have HL : Hid (l0 - n ≤ 1048576) := by show l0 - n ≤ 1048576; omega
    go_enter Try.func46, Try.ntmps46
    go_wp2_with fail
    go_loopw [1, 5] (fun v i wr => ∃ k l : Nat, k ≤ n ∧ i = .int .i64 k ∧ v = .int .i64 l ∧ l ≤ 1048576 ∧ Hid (∀ j (h : j < ps.length), j < k → strsSmall ps[j]) ∧ Below w.heap.size w wr) (fun _ i _ => n - (intOf i).toNat)
    case atStart => exact ⟨0, l0 - n, Nat.zero_le _, rfl, by rw [← e0], HL.out, fun _ _ h => absurd h (Nat.not_lt_zero _), Ext.refl _⟩
    case round =>
      obtain ⟨k, l, hk, rfl, rfl, hl1, hS, hb⟩ := hrel
      clear e0
      by_cases hlt : k < n
      · have hk' : k < ps.length := by have := HN.out; omega
        obtain ⟨a, rfl, hg, hc⟩ := HX.out wr hb (by omega)
        obtain ⟨Ak, ck, c1, r1⟩ := hc k hk'
        have LK := LN.out ps[k] (List.getElem_mem _)
        have S1 := Lib.hid (picSzB_any Ak ck ps[k] l hl1 wr r1 LK.1 LK.2)
        have S2 : Hid (strsSmall ps[k] → ∀ j (h : j < ps.length), j < k + 1 → strsSmall ps[j]) := fun h j hj hjk => by
          rcases Nat.lt_succ_iff_lt_or_eq.1 hjk with h1 | rfl
          · exact hS.out j hj h1
          · exact h
        clear hc hS LK r1
        generalize ps[k] = p at *
        generalize strsSmall p = SS at *
        generalize p.length = m at *
        have i2 : (0 : Int) ≤ (k : Int) := by omega
        have i3 : (k : Int) < (n : Int) := by omega
        clear hk'
        go_wp2_with fail
        refine S1.out.mono ?_
        rintro e w' ⟨⟨r, rfl, hr⟩, hb2⟩
        have B2 := Ext.then_ hb hb2
        by_cases h2 : r < 0
        · clear hr
          go_wp2_with fail
          go_ret
          exact ⟨⟨-1, rfl, .inl (by decide)⟩, B2⟩
        · obtain ⟨hs, l', hl', rfl⟩ := hr.resolve_left h2
          have S3 := Lib.hid (S2.out hs)
          clear hr hs
          go_wp2_with fail
          go_roundw
          case rel => exact ⟨k + 1, l', by omega, by go_num, rfl, hl', S3, B2⟩
          case measure => simp [intOf]; omega
      · obtain rfl : k = n := by omega
        have SM : Hid (psSmall ps) := ⟨by rw [HN.out]; exact HLE.out, fun r hr => by
          obtain ⟨j, hj, rfl⟩ := List.getElem_of_mem hr
          exact hS.out j hj (by have := HN.out; omega)⟩
        clear hS
        go_wp2_with fail
        go_ret
        exact ⟨⟨l, rfl, .inr SM.out⟩, hb⟩
set_option maxHeartbeats 400000 in
theorem psEq_any (A B : Option Addr) (c d : Nat) (ps : List (List ByteArray)) (w : World) (hA : PsRd w A ps) (hB : PsRd w B ps) (hn : psSmall ps) :
    Calls Try.prog 51 #[.slice A ps.length c, .slice B ps.length d] w fun e w' => e = .returned (.bool true) ∧ Below w.heap.size w w' := by
  obtain ⟨hn0, hn1⟩ := hn
  have XA := Lib.hid (fun V (hb : Below w.heap.size w V) => hA.ext hb)
  have XB := Lib.hid (fun V (hb : Below w.heap.size w V) => hB.ext hb)
  have HR := Lib.hid hn1
  obtain ⟨n, hnL⟩ : ∃ n, ps.length = n := ⟨_, rfl⟩
  have t0 : ((n : Int) != n) = false := by simp
  have HN := Lib.hid hnL
  rw [hnL] at hn0 ⊢
  clear hA hB hn1 hnL
  go_enter Try.func51, Try.ntmps51
  go_wp2_with fail
  go_loopw [5] (fun i wr => ∃ k : Nat, k ≤ n ∧ i = .int .i64 k ∧ Below w.heap.size w wr) (fun i _ => n - (intOf i).toNat)
  case atStart => exact ⟨0, Nat.zero_le _, rfl, Ext.refl _⟩
  case round =>
    obtain ⟨k, hk, rfl, hb⟩ := hrel
    by_cases hlt : k < n
    · have hk' : k < ps.length := by have := HN.out; omega
      obtain ⟨g, rfl, hg, hcA⟩ := XA.out wr hb (by omega)
      obtain ⟨g', rfl, hg', hcB⟩ := XB.out wr hb (by omega)
      obtain ⟨A1, c1, k1, r1⟩ := hcA k (by omega)
      obtain ⟨A2, c2, k2, r2⟩ := hcB k (by omega)
      have hrk := (HR.out ps[k] (List.getElem_mem _)).1
      clear hcA hcB
      have EQ := Lib.hid (fun V (hV : Below wr.heap.size wr V) => eqPic_any A1 A2 c1 c2 ps[k] V (r1.ext hV) (r2.ext hV) (by omega))
      clear r1 r2
      generalize ps[k] = p at *
      generalize p.length = m at *
      have i0 : (0 : Int) ≤ (k : Int) := by omega
      have i1 : (k : Int) < (n : Int) := by omega
      go_wp2_with fail
      go_region_held3 (fun w' => w'.cell? ⟨g, k, none⟩ = some (.slice A1 m c1) ∧ w'.cell? ⟨g', k, none⟩ = some (.slice A2 m c2))
        (first | ((go_split_ands; refine ⟨?_, ?_⟩ <;> exact (hb'.cell (p := ⟨_, _, none⟩) (by first | omega | (simp; omega) | simp)).trans (by assumption))) | go_keep)
        (first
          | (go_at_call 21; refine (EQ.out _ (Ext.draw (Ext.refl _))).mono ?_; rintro e w2 ⟨rfl, hb'⟩))
      go_wp2_with fail
      go_roundw
      case rel => exact ⟨k + 1, by omega, by go_num, Ext.then_ (Ext.draw hb) hb'⟩
      case measure => simp [intOf]; omega
    · obtain rfl : k = n := by omega
      go_wp2_with fail
      go_ret
      exact ⟨rfl, hb⟩
theorem psT : ElemT 50 41 (.agg #[.slice none 0 0]) 1 24 := ⟨Try.underlying50, by kernel_rfl, rfl, by decide, by decide⟩
theorem own_own_neD {w : World} {b1 b2 : Nat} {e1 e2 : TypeId} {s1 s2 n1 n2 : Nat} {v1 v2 : Value} {x1 x2 : List Value} (h1 : w.ownsRow b1 e1 s1 v1 n1 x1) (h2 : w.ownsRow b2 e2 s2 v2 n2 x2) (hne : e1 ≠ e2) {g : Nat} (hg : v1.ownBlock = some g) : v2.ownBlock ≠ some g := by
  intro hg2
  rcases h1.2 with ⟨rfl, _⟩ | ⟨g1, cap1, cur1, rfl, _, hh1, _⟩
  · simp [Value.ownBlock] at hg
  · rcases h2.2 with ⟨rfl, _⟩ | ⟨g2, cap2, cur2, rfl, _, hh2, _⟩
    · simp [Value.ownBlock] at hg2
    · simp only [Value.ownBlock, Option.some.injEq] at hg hg2
      subst hg
      rw [hg2] at hh2
      rw [hh1] at hh2
      injection hh2 with hh2
      injection hh2 with _ ht
      exact hne ht

/-- A matrix in memory of the law's own, between lo and hi: the outer row's values vs, each row apart from the others. -/
structure PsAt (w : World) (lo hi : Nat) (A : Option Addr) (c : Nat) (vs : List Value) (rows : List (List ByteArray)) : Prop where
  outer : w.ownsRow lo 41 1 (.slice A rows.length c) rows.length vs
  top : ∀ a, A = some a → a.block < hi
  row : ∀ i (h : i < rows.length), ∃ Ai ci, vs[i]? = some (.slice Ai rows[i].length ci) ∧ w.ownsRow lo 9 1 (.slice Ai rows[i].length ci) rows[i].length (strs rows[i]) ∧ ∀ a, Ai = some a → a.block < hi
  apart : ∀ (i j : Nat) (u v : Value) (g : Nat), i ≠ j → vs[i]? = some u → vs[j]? = some v → u.ownBlock = some g → v.ownBlock ≠ some g
theorem PsAt.rd {w : World} {lo hi : Nat} {A : Option Addr} {c : Nat} {vs : List Value} {rows : List (List ByteArray)} (h : PsAt w lo hi A c vs rows) : PsRd w A rows := by
  intro hn
  rcases h.outer.2 with ⟨_, h0⟩ | ⟨g, cap, cur, hv, _⟩
  · omega
  · simp only [Value.slice.injEq] at hv
    obtain ⟨rfl, _, rfl⟩ := hv
    refine ⟨g, rfl, (h.outer.lt g rfl).2, fun i hi => ?_⟩
    obtain ⟨Ai, ci, h1, h2, _⟩ := h.row i hi
    exact ⟨Ai, ci, (h.outer.cellAt i (by omega)).trans h1, Rd.of_own h2⟩
theorem PsAt.ext {w w' : World} {lo hi : Nat} {A : Option Addr} {c : Nat} {vs : List Value} {rows : List (List ByteArray)} (h : PsAt w lo hi A c vs rows) (hb : Below w.heap.size w w') : PsAt w' lo hi A c vs rows := by
  refine ⟨own_ext hb h.outer, h.top, fun i hi => ?_, h.apart⟩
  obtain ⟨Ai, ci, h1, h2, h3⟩ := h.row i hi
  exact ⟨Ai, ci, h1, own_ext hb h2, h3⟩
/-- Blocks outside have turned. -/
theorem PsAt.keep {w w' : World} {lo hi : Nat} {A : Option Addr} {c : Nat} {vs : List Value} {rows : List (List ByteArray)} {S : Nat → Prop} (h : PsAt w lo hi A c vs rows) (hc : Chg S w w') (hS : ∀ b, lo ≤ b → b < hi → ¬ S b) : PsAt w' lo hi A c vs rows := by
  have one : ∀ {e : TypeId} {B : Option Addr} {n d : Nat} {xs : List Value}, w.ownsRow lo e 1 (.slice B n d) n xs → (∀ a, B = some a → a.block < hi) → w'.ownsRow lo e 1 (.slice B n d) n xs := by
    intro e B n d xs ho ht
    refine hc.own ho (fun g hg => ?_)
    cases B with
    | none => simp [Value.ownBlock] at hg
    | some a =>
      have hl := (ho.lt g hg).1
      simp [Value.ownBlock] at hg
      exact hS g hl (by rw [← hg]; exact ht a rfl)
  refine ⟨one h.outer h.top, h.top, fun i hi => ?_, h.apart⟩
  obtain ⟨Ai, ci, h1, h2, h3⟩ := h.row i hi
  exact ⟨Ai, ci, h1, one h2 h3, h3⟩
/-- A copy of a matrix in the making. -/
structure PsTo (B : Nat) (w : World) (rows : List (List ByteArray)) (us : List Value) (n k : Nat) (wr : World) : Prop where
  outer : wr.ownsRow B 41 1 (.slice (some ⟨B, 0, none⟩) n n) n us
  row : ∀ i (h : i < rows.length), i < k → ∃ Ai ci, us[i]? = some (.slice Ai rows[i].length ci) ∧ wr.ownsRow B 9 1 (.slice Ai rows[i].length ci) rows[i].length (strs rows[i])
  apart : ∀ (i j : Nat) (u v : Value) (g : Nat), i < k → j < k → i ≠ j → us[i]? = some u → us[j]? = some v → u.ownBlock = some g → v.ownBlock ≠ some g
  ext : Below B w wr

theorem PsTo.step {B : Nat} {w : World} {rows : List (List ByteArray)} {us : List Value} {n k : Nat} {wr : World} (h : PsTo B w rows us n k wr) (hB : B ≤ wr.heap.size) (hk : k < rows.length) (hn : rows.length = n) {w' : World} {A' : Option Addr} {c' : Nat}
    (ho : w'.ownsRow wr.heap.size 9 1 (.slice A' rows[k].length c') rows[k].length (strs rows[k])) (hb : Below wr.heap.size wr w') :
    PsTo B w rows (us.set k (.slice A' rows[k].length c')) n (k + 1) (w'.setCell ⟨B, k, none⟩ (.slice A' rows[k].length c')) := by
  have h1 := own_ext hb h.outer
  have h2 := (h1.stored k (.slice A' rows[k].length c')).1
  have hul : us.length = n := by have := h.outer.1; omega
  have hne : (Value.slice A' rows[k].length c').ownBlock ≠ some B := own_own_neD h1 ho (by decide) rfl
  have keep : ∀ {v : Value} {m : Nat} {xs : List Value}, w'.ownsRow B 9 1 v m xs → (w'.setCell ⟨B, k, none⟩ (.slice A' rows[k].length c')).ownsRow B 9 1 v m xs := by
    intro v m xs hv
    exact ((Chg.refl (fun b => b = B) w').store (p := ⟨B, k, none⟩) rfl _).own hv (fun g hg e => own_own_neD h1 hv (by decide) rfl (by rw [hg, e]))
  refine ⟨h2, fun i hi hik => ?_, fun i j u v g hi hj hij hu hv hg => ?_, ?_⟩
  · by_cases e : i = k
    · subst e
      refine ⟨A', c', by rw [List.getElem?_set_self (by omega)], keep (own_base ho hB)⟩
    · obtain ⟨Ai, ci, hx, hy⟩ := h.row i hi (by omega)
      exact ⟨Ai, ci, by rw [List.getElem?_set_ne (Ne.symm e)]; exact hx, keep (own_ext hb hy)⟩
  · by_cases e : i = k
    · subst e
      rw [List.getElem?_set_self (by omega)] at hu
      rw [List.getElem?_set_ne (by omega)] at hv
      obtain rfl := Option.some.inj hu
      obtain ⟨Aj, cj, hx, hy⟩ := h.row j (by omega) (by omega)
      rw [hv] at hx
      obtain rfl := Option.some.inj hx
      intro hg2
      have := (ho.lt g hg).1
      have := (hy.lt g hg2).2
      omega
    · rw [List.getElem?_set_ne (Ne.symm e)] at hu
      by_cases e2 : j = k
      · subst e2
        rw [List.getElem?_set_self (by omega)] at hv
        obtain rfl := Option.some.inj hv
        obtain ⟨Ai, ci, hx, hy⟩ := h.row i (by omega) (by omega)
        rw [hu] at hx
        obtain rfl := Option.some.inj hx
        intro hg2
        have := (ho.lt g hg2).1
        have := (hy.lt g hg).2
        omega
      · rw [List.getElem?_set_ne (Ne.symm e2)] at hv
        exact h.apart i j u v g (by omega) (by omega) hij hu hv hg
  · exact (h.ext.trans (hb.mono hB)).setCell (p := ⟨B, k, none⟩) (Nat.le_refl _) _
set_option maxHeartbeats 1000000 in
theorem psTo_any (A : Option Addr) (c : Nat) (rows : List (List ByteArray)) (w : World) (h : PsRdA w A rows) (hn : rows.length ≤ 1048576) (hsz : ∀ r ∈ rows, r.length ≤ 1048576) :
    Calls Try.prog 48 #[.slice A rows.length c] w fun e w' => ∃ A' c' vs, e = .returned (.slice A' rows.length c') ∧ PsAt w' w.heap.size w'.heap.size A' c' vs rows ∧ Below w.heap.size w w' := by
  obtain ⟨i0, hi, hz0, hz1, hz2⟩ := info_parts psT.info
  have EX := Lib.hid (fun V (hb : Below w.heap.size w V) => h.ext hb)
  have SZ := Lib.hid hsz
  clear h hsz
  obtain ⟨n, hnL⟩ : ∃ n, rows.length = n := ⟨_, rfl⟩
  have HN := Lib.hid hnL
  rw [hnL] at hn
  have hmk : (Instr.makeSlice 50 (.int .i64 (n : Int)) (.int .i64 (n : Int))).run Try.prog w = .ok (.slice (some ⟨w.heap.size, 0, none⟩) n n) (w.alloc (.cells (madeCells #[.slice none 0 0] n) 41)) := by
    have h := run_make (P := Try.prog) w 50 41 i0 _ Try.underlying50 hi hz0 .i64 .i64 (n : Int) (n : Int) (by omega) (Int.le_refl _) (by rw [hz2]; omega) (by omega)
    rw [h, hz1, Int.toNat_natCast]
    show Result.ok _ (w.alloc (.cells (madeCells #[.slice none 0 0] (n * 1)) _)) = _
    rw [Nat.mul_one]
  have hown0 := own_made w 41 (.slice none 0 0) n (by unfold maxLen; omega)
  have M0 : PsTo w.heap.size w rows (List.replicate n (.slice none 0 0)) n 0 (w.alloc (.cells (madeCells #[.slice none 0 0] n) 41)) :=
    ⟨hown0, fun i _ h => absurd h (Nat.not_lt_zero _), fun i _ _ _ _ h => absurd h (Nat.not_lt_zero _), Ext.more (Ext.refl _) _⟩
  have hB0 : w.heap.size ≤ (w.alloc (.cells (madeCells #[.slice none 0 0] n) 41)).heap.size := (Ext.more (Ext.refl w) _).size
  clear hi hz0 hz1 hz2 hown0
  have FIN : Hid (∀ (us : List Value) (w' : World), PsTo w.heap.size w rows us n n w' → ∃ A' c' vs, Ending.returned (.slice (some ⟨w.heap.size, 0, none⟩) n n) = .returned (.slice A' n c') ∧ PsAt w' w.heap.size w'.heap.size A' c' vs rows ∧ Below w.heap.size w w') := by
    intro us w' hm
    refine ⟨some ⟨w.heap.size, 0, none⟩, n, us, rfl, ⟨by rw [hnL]; exact hm.outer, fun a ha => by cases ha; exact (hm.outer.lt _ rfl).2, fun i hi => ?_, fun i j u v g hij hu hv hg => ?_⟩, hm.ext⟩
    · obtain ⟨Ai, ci, h1, h2⟩ := hm.row i hi (by omega)
      exact ⟨Ai, ci, h1, h2, fun a ha => by subst ha; exact (h2.lt _ rfl).2⟩
    · have hul : us.length = n := by have := hm.outer.1; omega
      have hi := (List.getElem?_eq_some_iff.1 hu).1
      have hj := (List.getElem?_eq_some_iff.1 hv).1
      exact hm.apart i j u v g (by omega) (by omega) hij hu hv hg
  rw [hnL]
  clear hnL
  go_enter Try.func48, Try.ntmps48
  go_wp2_with fail
  generalize w.alloc (.cells (madeCells #[.slice none 0 0] n) 41) = w0 at *
  clear hmk
  go_loopw [4] (fun i wr => ∃ (k : Nat) (us : List Value), k ≤ n ∧ i = .int .i64 k ∧ w.heap.size ≤ wr.heap.size ∧ PsTo w.heap.size w rows us n k wr) (fun i _ => n - (intOf i).toNat)
  case atStart => exact ⟨0, _, Nat.zero_le _, rfl, hB0, M0⟩
  case round =>
    obtain ⟨k, us, hk, rfl, hB, hm⟩ := hrel
    clear M0 hB0
    by_cases hlt : k < n
    · have hk' : k < rows.length := by have := HN.out; omega
      obtain ⟨a, rfl, hg, hc⟩ := (EX.out wr hm.ext) (by omega)
      obtain ⟨Ak, ck, c1, r1⟩ := hc k hk'
      have TI := Lib.hid (toPic_any Ak ck rows[k] wr r1 (SZ.out _ (List.getElem_mem _)))
      have HM := Lib.hid hm
      have ST := Lib.hid (fun (w' : World) (A' : Option Addr) (c' : Nat) (ho : w'.ownsRow wr.heap.size 9 1 (.slice A' rows[k].length c') rows[k].length (strs rows[k])) (hb : Below wr.heap.size wr w') => hm.step hB hk' HN.out ho hb)
      have hul : us.length = n := by have := hm.outer.1; omega
      clear hc r1 hm
      have i0 : (0 : Int) ≤ (k : Int) := by omega
      have i1 : (k : Int) < (n : Int) := by omega
      generalize hrk : rows[k].length = m at *
      go_wp2_with fail
      refine TI.out.mono ?_
      rintro e w2 ⟨A2, c2, rfl, ho, hb⟩
      have h1 := own_ext hb HM.out.outer
      have cB := h1.cellAt k (by omega)
      have fB := h1.frozenAt k
      rw [List.getElem?_eq_getElem (by omega)] at cB
      have S2 := Lib.hid (ST.out w2 A2 c2 ho hb)
      have hsz2 := hb.size
      generalize us[k]'(by omega) = u at *
      clear h1 ho hb
      go_wp2_with fail
      go_roundw
      case rel => exact ⟨k + 1, _, by omega, by go_num, by simp [World.setCell]; omega, S2.out⟩
      case measure => simp [intOf]; omega
    · obtain rfl : k = n := by omega
      have HF := Lib.hid (FIN.out us wr hm)
      clear hm
      go_wp2_with fail
      go_ret
      exact HF.out
end Go.Proofs.Ytogefmkplkddoaa
