/- Spreading errors: a part is given to a pixel, or is lost. -/
import Derived.Test.YtdbelajgndclfaaHei
import Derived.Test.YtdbelajgndclfaaSpd
namespace Go.Proofs.Ytdbelajgndclfaa
open Go.RowKit

theorem Blk.chg {S : Nat → Prop} {w w' : World} {g : Nat} {t : TypeId} {cs : Array Value} (h : Blk w g t cs) (hb : Chg S w w') (hs : ¬ S g) : Blk w' g t cs := (hb.block g h.lt hs).trans h
theorem Img.chg {S : Nat → Prop} {w w' : World} {p g W H : Nat} {L : List Bool} (h : Img w p g W H L) (hb : Chg S w w') (hp : ¬ S p) (hg : ¬ S g) : Img w' p g W H L :=
  ⟨h.hdr.chg hb hp, h.bits.chg hb hg, h.len⟩

theorem Chg.narrow {S : Nat → Prop} {a b : World} (h : Chg (fun k => a.heap.size ≤ k) a b) : Chg S a b :=
  ⟨h.os, h.tape, h.output, h.size, fun j hj _ => h.block j hj (by omega)⟩
theorem HeiInv.chg {S : Nat → Prop} {w0 : World} {lo po : Nat} {A : Option Addr} {c : Nat} {vs : List Value} {W H : Nat} {O : Nat → Int} {wr w' : World} (h : HeiInv w0 lo po A c vs W H O wr) (hb : Chg S wr w') (hs : ∀ k, S k → po < k) (hlo : lo ≤ po) : HeiInv w0 lo po A c vs W H O w' :=
  ⟨h.box.chg hb (fun k => absurd (hs _ k) (Nat.lt_irrefl _)), h.mat.keep (hb.mono hs) (fun b h1 h2 h3 => by omega), h.ext.trans ((hb.mono hs).below (fun k hk => by omega) (by have := h.box.lt; omega))⟩
theorem HeiInv.apart {w0 : World} {lo po : Nat} {A : Option Addr} {c : Nat} {vs : List Value} {W H : Nat} {O : Nat → Int} {wr : World} (h : HeiInv w0 lo po A c vs W H O wr) {p : Addr} (hp : po < p.block) (hlo : lo ≤ po) (u : Value) : HeiInv w0 lo po A c vs W H O (wr.setCell p u) :=
  h.chg (S := fun k => po < k) ((Chg.refl _ _).store hp u) (fun _ h => h) hlo

/-- What is written while errors are spread: the numbers between lo and po, and the block of what is lost. -/
def spS (lo po lb : Nat) (b : Nat) : Prop := (lo ≤ b ∧ b < po) ∨ b = lb
/-- Behind the giving of a part. -/
structure GaveTo (w0 : World) (lo po lb : Nat) (A : Option Addr) (c : Nat) (vs : List Value) (W H : Nat) (s : (Nat → Int) × Int) (wr w' : World) : Prop where
  hei : HeiInv w0 lo po A c vs W H s.1 w'
  lost : Blk w' lb 2 #[.int .i64 s.2]
  chg : Chg (spS lo po lb) wr w'

theorem giveO_in {W H x y : Nat} {n : Int} {s : (Nat → Int) × Int} (h : inG W H ((x : Int), (y : Int)) = true) : giveO W H ((x : Int), (y : Int)) n s = (setF s.1 (y * W + x) (s.1 (y * W + x) + n), s.2) := by
  have e : plc W ((x : Int), (y : Int)) = y * W + x := by simp [plc]
  rw [giveO, if_pos h, e]
theorem giveO_out {W H : Nat} {p : Int × Int} {n : Int} {s : (Nat → Int) × Int} (h : inG W H p = false) : giveO W H p n s = (s.1, s.2 + n) := by
  rw [giveO, if_neg (by rw [h]; decide)]

set_option maxRecDepth 100000 in
set_option maxHeartbeats 1000000 in
theorem give_any (w0 : World) (lo po lb : Nat) (A : Option Addr) (c : Nat) (vs : List Value) (W H : Nat) (s : (Nat → Int) × Int) (x y n : Int) (wr : World)
    (hI : HeiInv w0 lo po A c vs W H s.1 wr) (hL : Blk wr lb 2 #[.int .i64 s.2]) (hlo : lo ≤ po) (hlb : po < lb) (hH0 : 0 < H) (hW : W ≤ 16) (hH : H ≤ 16)
    (hn : -40000 ≤ n ∧ n ≤ 40000) (hs : -40000 ≤ s.2 ∧ s.2 ≤ 40000) (hv : inG W H (x, y) = true → -40000 ≤ s.1 (plc W (x, y)) ∧ s.1 (plc W (x, y)) ≤ 40000) :
    Calls Try.prog 96 #[.int .i64 x, .int .i64 y, .int .i64 n, .pointer (some ⟨po, 0, none⟩), .pointer (some ⟨lb, 0, none⟩)] wr fun e w' => e = .returned (.tuple #[]) ∧ GaveTo w0 lo po lb A c vs W H (giveO W H (x, y) n s) wr w' := by
  have T1 : Blk (wr.alloc (.cells #[.int .i64 x, .int .i64 y] 114)) wr.heap.size 114 #[.int .i64 x, .int .i64 y] := Blk.made _ _ _
  have B1 : Below wr.heap.size wr (wr.alloc (.cells #[.int .i64 x, .int .i64 y] 114)) := Ext.more (Ext.refl _) _
  have HI := Lib.hid hI
  have HL := Lib.hid hL
  have HV := Lib.hid hv
  have HS := Lib.hid (fun V (hb : Below wr.heap.size wr V) => g_has (hI.step hb hlo).grey (by rw [tabW_gO _ hH0]) (gO_length _ _ _) hH0 (by omega) (by omega) x y)
  clear hI hL hv
  go_enter Try.func96, Try.ntmps96
  go_wp2_with fail
  refine (HS.out _ B1).mono ?_
  rintro e w2 ⟨rfl, hb2⟩
  have B2 := Ext.then_ B1 hb2
  have hz2 := B2.size
  have L2 := HL.out.under B2 HL.out.lt
  have CG : Chg (spS lo po lb) wr w2 := (Chg.of_below B2).narrow
  have I2 := HI.out.step B2 hlo
  have lbl := HL.out.lt
  clear T1 B1 HS hb2
  by_cases hin : inG W H (x, y) = true
  · obtain ⟨⟨p1, p2⟩, p3, p4⟩ := inG_iff.1 hin
    have hv := HV.out hin
    obtain ⟨a, rfl⟩ : ∃ a : Nat, x = a := ⟨x.toNat, by simp only at p1; omega⟩
    obtain ⟨b, rfl⟩ : ∃ b : Nat, y = b := ⟨y.toNat, by simp only at p3; omega⟩
    have ha : a < W := by simp only at p2; omega
    have hb : b < H := by simp only at p4; omega
    have e : plc W ((a : Int), (b : Int)) = b * W + a := by simp [plc]
    rw [e] at hv
    have GO := Lib.hid (giveO_in (n := n) (s := s) hin)
    obtain ⟨g, gr, cy, rfl, q1, q2, q3, q4, q5, q6, q7, q8⟩ := I2.put ha hb
    have k0 := I2.box.cell 0
    simp at k0
    have SP := Lib.hid (q8 (s.1 (b * W + a) + n))
    clear q8 HV HI e
    have j0 : IntKind.i64.wrap (s.1 (b * W + a) + n) = s.1 (b * W + a) + n := IntWalk.i64_in _ (by omega)
    generalize s.1 (b * W + a) = v at *
    have i1 : (a : Int) < W := by omega
    have i2 : (b : Int) < H := by omega
    have L3 := Lib.hid (L2.apart (p := ⟨gr, a, none⟩) (by show lb ≠ gr; omega) (.int .i64 (v + n)))
    have C3 := Lib.hid (CG.store (p := ⟨gr, a, none⟩) (Or.inl ⟨q3, q4⟩) (.int .i64 (v + n)))
    clear L2 CG
    go_wp2_with fail
    go_end0
    exact ⟨rfl, by rw [GO.out]; exact ⟨SP.out, L3.out, C3.out⟩⟩
  · have hno : inG W H (x, y) = false := by simpa using hin
    have j0 : IntKind.i64.wrap (s.2 + n) = s.2 + n := IntWalk.i64_in _ (by omega)
    have GO := Lib.hid (giveO_out (n := n) (s := s) hno)
    have k0 := L2.cell 0
    have f0 := L2.free 0
    simp at k0
    have L3 := Lib.hid (L2.store 0 (.int .i64 (s.2 + n)))
    have C3 := Lib.hid (CG.store (p := ⟨lb, 0, none⟩) (Or.inr rfl) (.int .i64 (s.2 + n)))
    have I3 := Lib.hid (HeiInv.apart I2 (p := ⟨lb, 0, none⟩) hlb hlo (.int .i64 (s.2 + n)))
    clear L2 CG HV HI I2
    go_wp2_with fail
    go_end0
    exact ⟨rfl, by rw [GO.out]; exact ⟨I3.out, L3.out, C3.out⟩⟩
end Go.Proofs.Ytdbelajgndclfaa
