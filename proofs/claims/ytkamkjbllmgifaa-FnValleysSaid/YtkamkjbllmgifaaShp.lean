/- Data of the laws' own in memory, all shapes alike: kept, read, copied, compared, marked, held. -/
import Derived.Test.YtkamkjbllmgifaaPicL
import Derived.Test.YtkamkjbllmgifaaMatP
namespace Go.Proofs.Ytkamkjbllmgifaa
open Go.RowKit

/-- A row of the law's own, between lo and hi. -/
structure RowO (w : World) (e : TypeId) (lo hi : Nat) (A : Option Addr) (n c : Nat) (xs : List Value) : Prop where
  own : w.ownsRow lo e 1 (.slice A n c) n xs
  top : ∀ a, A = some a → a.block < hi
section
variable {w w' : World} {e : TypeId} {lo hi : Nat} {A : Option Addr} {n c : Nat} {xs : List Value}
theorem RowO.ext (h : RowO w e lo hi A n c xs) (hb : Below w.heap.size w w') : RowO w' e lo hi A n c xs := ⟨own_ext hb h.own, h.top⟩
theorem RowO.keep {S : Nat → Prop} (h : RowO w e lo hi A n c xs) (hc : Chg S w w') (hS : ∀ b, lo ≤ b → b < hi → ¬ S b) : RowO w' e lo hi A n c xs := by
  refine ⟨hc.own h.own (fun g hg => ?_), h.top⟩
  cases A with
  | none => simp [Value.ownBlock] at hg
  | some a =>
    have hl := (h.own.lt g hg).1
    simp [Value.ownBlock] at hg
    exact hS g hl (by rw [← hg]; exact h.top a rfl)
theorem RowO.rd (h : RowO w e lo hi A n c xs) : Rd w A xs := Rd.of_own h.own
theorem RowO.of_own (h : w.ownsRow lo e 1 (.slice A n c) n xs) : RowO w e lo w.heap.size A n c xs := ⟨h, fun a ha => by subst ha; exact (h.lt a.block rfl).2⟩
theorem RowO.chg (h : RowO w e lo hi A n c xs) (hc : Chg (fun b => ∃ a, A = some a ∧ b = a.block) w w') : Chg (fun b => lo ≤ b ∧ b < hi) w w' :=
  hc.mono (fun b ⟨a, ha, hb⟩ => by subst ha; rw [hb]; exact ⟨(h.own.lt a.block rfl).1, h.top a rfl⟩)
theorem RowO.low {lo' hi' : Nat} (h : RowO w e lo hi A n c xs) (h1 : lo' ≤ lo) (h2 : hi ≤ hi') : RowO w e lo' hi' A n c xs := ⟨own_base h.own h1, fun a ha => Nat.lt_of_lt_of_le (h.top a ha) h2⟩
end

/-- Texts. -/
def PicO (w : World) (lo hi : Nat) (A : Option Addr) (c : Nat) (rows : List ByteArray) : Prop := RowO w 9 lo hi A rows.length c (strs rows)
section
variable {w w' : World} {lo hi : Nat} {A : Option Addr} {c : Nat} {rows : List ByteArray}
theorem PicO.ext (h : PicO w lo hi A c rows) (hb : Below w.heap.size w w') : PicO w' lo hi A c rows := RowO.ext h hb
theorem PicO.keep {S : Nat → Prop} (h : PicO w lo hi A c rows) (hc : Chg S w w') (hS : ∀ b, lo ≤ b → b < hi → ¬ S b) : PicO w' lo hi A c rows := RowO.keep h hc hS
theorem PicO.rd (h : PicO w lo hi A c rows) : Rd w A (strs rows) := RowO.rd h
end

/-- Numbers. -/
def IntsO (w : World) (lo hi : Nat) (A : Option Addr) (c : Nat) (L : List Int) : Prop := RowO w 2 lo hi A L.length c (ints L)
section
variable {w w' : World} {lo hi : Nat} {A : Option Addr} {c : Nat} {L : List Int}
theorem IntsO.ext (h : IntsO w lo hi A c L) (hb : Below w.heap.size w w') : IntsO w' lo hi A c L := RowO.ext h hb
theorem IntsO.keep {S : Nat → Prop} (h : IntsO w lo hi A c L) (hc : Chg S w w') (hS : ∀ b, lo ≤ b → b < hi → ¬ S b) : IntsO w' lo hi A c L := RowO.keep h hc hS
theorem IntsO.rd (h : IntsO w lo hi A c L) : Rd w A (ints L) := RowO.rd h
end
theorem intsTo_any (A : Option Addr) (c : Nat) (L : List Int) (w : World) (h : RdA w A (ints L)) (hn : L.length ≤ 1048576) :
    Calls Try.prog 95 #[.slice A L.length c] w fun e w' => ∃ A' c', e = .returned (.slice A' L.length c') ∧ IntsO w' w.heap.size w'.heap.size A' c' L ∧ Below w.heap.size w w' :=
  (toInts_any A c L w h hn).mono fun _ _ ⟨A', c', h1, h2, h3⟩ => ⟨A', c', h1, RowO.of_own h2, h3⟩
theorem intsEq_any (A B : Option Addr) (c d : Nat) (L : List Int) (w : World) (hA : Rd w A (ints L)) (hB : Rd w B (ints L)) (hn : L.length ≤ 1000000000) :
    Calls Try.prog 58 #[.slice A L.length c, .slice B L.length d] w fun e w' => e = .returned (.bool true) ∧ Below w.heap.size w w' :=
  (eqInts_any A B c d L w hA hB hn).mono fun _ _ ⟨h1, k, h2⟩ => ⟨h1, by rw [h2]; exact Ext.drawN (Ext.refl _) _⟩
theorem intsMark_any (lo hi : Nat) (A : Option Addr) (c : Nat) (L : List Int) (k0 : Nat) (w : World) (h : IntsO w lo hi A c L) (hn : L.length ≤ 1000000000) (hk0 : k0 ≤ 1000000000) :
    Calls Try.prog 59 #[.slice A L.length c, .int .i64 k0] w fun e w' => e = .returned (.int .i64 ((k0 + L.length : Nat) : Int)) ∧ IntsO w' lo hi A c (marks k0 L.length) ∧ Chg (fun b => lo ≤ b ∧ b < hi) w w' :=
  (markInts_any lo A c L k0 w h.own hn (by omega)).mono fun _ _ ⟨h1, h2, h3⟩ => ⟨h1, ⟨by rw [marks_length]; exact h2, h.top⟩, RowO.chg h h3⟩
theorem intsHeld_any (A : Option Addr) (c n k0 : Nat) (w : World) (hA : Rd w A (ints (marks k0 n))) (hn : n ≤ 1000000000) (hk0 : k0 ≤ 1000000000) :
    Calls Try.prog 60 #[.slice A n c, .int .i64 k0] w fun e w' => e = .returned (.int .i64 ((k0 + n : Nat) : Int)) ∧ Below w.heap.size w w' :=
  (heldInts_any A c n k0 w hA hn (by omega)).mono fun _ _ ⟨h1, h2⟩ => ⟨h1, by rw [h2]; exact Ext.refl _⟩
theorem tot_row {rows : List (List Int)} {l : Nat} (h : rows.length + tot rows rows.length ≤ l) : ∀ r ∈ rows, r.length ≤ l := by
  intro r hr
  have h1 : r.length ≤ (rows.map List.length).sum := by
    clear h
    induction rows with
    | nil => cases hr
    | cons a l ih =>
      simp only [List.map_cons, List.sum_cons]
      rcases List.mem_cons.1 hr with rfl | hr
      · omega
      · have := ih hr; omega
  have h2 : tot rows rows.length = (rows.map List.length).sum := by simp [tot]
  omega
/-- Few enough. -/
def picSmall (rows : List ByteArray) : Prop := rows.length ≤ 1048576
def intsSmall (L : List Int) : Prop := L.length ≤ 1048576
def greySmall (rows : List (List Int)) : Prop := rows.length ≤ 1048576 ∧ tot rows rows.length ≤ 1048576 ∧ ∀ r ∈ rows, r.length ≤ 1048576
theorem greySmall.row {rows : List (List Int)} (h : greySmall rows) (i : Nat) (hi : i < rows.length) : rows[i].length ≤ 1000000000 := by
  have := h.2.2 _ (List.getElem_mem hi); omega
theorem greySz_any (A : Option Addr) (c : Nat) (rows : List (List Int)) (l0 : Nat) (hl : l0 ≤ 1048576) (w : World) (h : MatRdA w A rows) (hn : rows.length ≤ maxLen) (hsz : ∀ r ∈ rows, r.length ≤ maxLen) :
    Calls Try.prog 24 #[.agg #[.slice A rows.length c], .int .i64 l0] w fun e w' => (∃ r : Int, e = .returned (.int .i64 r) ∧ (r < 0 ∨ greySmall rows ∧ ∃ l : Nat, l ≤ 1048576 ∧ r = l)) ∧ Below w.heap.size w w' :=
  (szGrey_any A c rows l0 hl w h hn hsz).mono fun _ _ ⟨⟨r, h1, h2⟩, h3⟩ => ⟨⟨r, h1, h2.imp (fun h => h) (fun h => ⟨⟨by have := h.1; omega, by have := h.1; omega, fun r hr => by have := tot_row h.1 r hr; omega⟩, _, by omega, h.2⟩)⟩, h3⟩
end Go.Proofs.Ytkamkjbllmgifaa
