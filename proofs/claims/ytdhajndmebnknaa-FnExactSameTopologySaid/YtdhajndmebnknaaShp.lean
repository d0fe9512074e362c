/- Data of the laws' own in memory, all shapes alike: kept, read, copied, compared, marked, held. -/
import Derived.Test.YtdhajndmebnknaaPicL
import Derived.Test.YtdhajndmebnknaaWith
namespace Go.Proofs.Ytdhajndmebnknaa
open Go.RowKit

/-- A row of the law's own, between lo and hi. -/
structure RowO (w : World) (e : TypeId) (lo hi : Nat) (A : Option Addr) (n c : Nat) (xs : List Value) : Prop where
  own : w.ownsRow lo e 1 (.slice A n c) n xs
  top : ∀ a, A = some a → a.block < hi
section
variable {w w' : World} {e : TypeId} {lo hi : Nat} {A : Option Addr} {n c : Nat} {xs : List Value}
theorem RowO.ext (h : RowO w e lo hi A n c xs) (hb : Below w.heap.size w w') : RowO w' e lo hi A n c xs := ⟨own_ext hb h.own, h.top⟩
theorem RowO.keep {S : Nat → Prop} (h : RowO w e lo hi A n c xs) (hc : Chg S w w') (hS : ∀ b, lo ≤ b → b < hi → ¬ S b) : RowO w' e lo hi A n c xs := by
  refine ⟨hc.own h.own (fun g hg => ?_), h.top⟩
  cases A with
  | none => simp [Value.ownBlock] at hg
  | some a =>
    have hl := (h.own.lt g hg).1
    simp [Value.ownBlock] at hg
    exact hS g hl (by rw [← hg]; exact h.top a rfl)
theorem RowO.rd (h : RowO w e lo hi A n c xs) : Rd w A xs := Rd.of_own h.own
theorem RowO.of_own (h : w.ownsRow lo e 1 (.slice A n c) n xs) : RowO w e lo w.heap.size A n c xs := ⟨h, fun a ha => by subst ha; exact (h.lt a.block rfl).2⟩
theorem RowO.chg (h : RowO w e lo hi A n c xs) (hc : Chg (fun b => ∃ a, A = some a ∧ b = a.block) w w') : Chg (fun b => lo ≤ b ∧ b < hi) w w' :=
  hc.mono (fun b ⟨a, ha, hb⟩ => by subst ha; rw [hb]; exact ⟨(h.own.lt a.block rfl).1, h.top a rfl⟩)
theorem RowO.low {lo' hi' : Nat} (h : RowO w e lo hi A n c xs) (h1 : lo' ≤ lo) (h2 : hi ≤ hi') : RowO w e lo' hi' A n c xs := ⟨own_base h.own h1, fun a ha => Nat.lt_of_lt_of_le (h.top a ha) h2⟩
end

/-- Texts. -/
def PicO (w : World) (lo hi : Nat) (A : Option Addr) (c : Nat) (rows : List ByteArray) : Prop := RowO w 9 lo hi A rows.length c (strs rows)
section
variable {w w' : World} {lo hi : Nat} {A : Option Addr} {c : Nat} {rows : List ByteArray}
theorem PicO.ext (h : PicO w lo hi A c rows) (hb : Below w.heap.size w w') : PicO w' lo hi A c rows := RowO.ext h hb
theorem PicO.keep {S : Nat → Prop} (h : PicO w lo hi A c rows) (hc : Chg S w w') (hS : ∀ b, lo ≤ b → b < hi → ¬ S b) : PicO w' lo hi A c rows := RowO.keep h hc hS
theorem PicO.rd (h : PicO w lo hi A c rows) : Rd w A (strs rows) := RowO.rd h
end
theorem picTo_any (A : Option Addr) (c : Nat) (rows : List ByteArray) (w : World) (h : RdA w A (strs rows)) (hn : rows.length ≤ 1048576) :
    Calls Try.prog 9 #[.agg #[.slice A rows.length c]] w fun e w' => ∃ A' c', e = .returned (.agg #[.slice A' rows.length c']) ∧ PicO w' w.heap.size w'.heap.size A' c' rows ∧ Below w.heap.size w w' :=
  (toPic_any A c rows w h hn).mono fun _ _ ⟨A', c', h1, h2, h3⟩ => ⟨A', c', h1, RowO.of_own h2, h3⟩

/-- Numbers. -/
def IntsO (w : World) (lo hi : Nat) (A : Option Addr) (c : Nat) (L : List Int) : Prop := RowO w 2 lo hi A L.length c (ints L)
section
variable {w w' : World} {lo hi : Nat} {A : Option Addr} {c : Nat} {L : List Int}
theorem IntsO.ext (h : IntsO w lo hi A c L) (hb : Below w.heap.size w w') : IntsO w' lo hi A c L := RowO.ext h hb
theorem IntsO.keep {S : Nat → Prop} (h : IntsO w lo hi A c L) (hc : Chg S w w') (hS : ∀ b, lo ≤ b → b < hi → ¬ S b) : IntsO w' lo hi A c L := RowO.keep h hc hS
theorem IntsO.rd (h : IntsO w lo hi A c L) : Rd w A (ints L) := RowO.rd h
end
/-- Few enough. -/
def picSmall (rows : List ByteArray) : Prop := rows.length ≤ 1048576
def intsSmall (L : List Int) : Prop := L.length ≤ 1048576
theorem picSz_any (A : Option Addr) (c : Nat) (rows : List ByteArray) (l0 : Nat) (hl : l0 ≤ 1048576) (w : World) (h : RdA w A (strs rows)) (hn : rows.length ≤ maxLen) (hsz : ∀ r ∈ rows, r.size ≤ maxLen) :
    Calls Try.prog 7 #[.agg #[.slice A rows.length c], .int .i64 l0] w fun e w' => (∃ r : Int, e = .returned (.int .i64 r) ∧ (r < 0 ∨ picSmall rows)) ∧ Below w.heap.size w w' :=
  (szPic_any A c rows l0 hl w h hn hsz).mono fun _ _ ⟨⟨r, h1, h2⟩, h3⟩ => ⟨⟨r, h1, h2.imp (fun h => h) (fun h => by unfold picSmall; omega)⟩, h3⟩
theorem PicRes.o {w w' : World} {R : List ByteArray} {ok : Bool} {e : Ending} (h : PicRes w R ok e w') : ∃ A c, e = .returned (.tuple #[.agg #[.slice A R.length c], .bool ok]) ∧ PicO w' w.heap.size w'.heap.size A c R ∧ Below w.heap.size w w' := by
  obtain ⟨A, c, h1, h2, h3⟩ := h
  exact ⟨A, c, h1, RowO.of_own h2, h3⟩
end Go.Proofs.Ytdhajndmebnknaa
