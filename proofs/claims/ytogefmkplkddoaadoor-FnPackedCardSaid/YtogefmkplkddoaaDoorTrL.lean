/- Trees of squares: the program's PackTree. -/
import Derived.Test.YtogefmkplkddoaaDoorTrK
namespace Go.Proofs.YtogefmkplkddoaaDoor
open Go.RowKit

def ptB (s : Int) (t : ByteArray) : Bool := (trO s t).isSome
def ptV (s : Int) (t : ByteArray) : ByteArray := match trO s t with
  | some T => ⟨(T.pk (sdN s)).toArray⟩
  | none => ⟨#[]⟩
theorem pt_no {s : Int} {t : ByteArray} (h : trO s t = none) : ptB s t = false ∧ ptV s t = ⟨#[]⟩ := by simp [ptB, ptV, h]
theorem pt_yes {s : Int} {t : ByteArray} {T : QT} (h : trO s t = some T) : ptB s t = true ∧ ptV s t = ⟨(T.pk (sdN s)).toArray⟩ := by simp [ptB, ptV, h]
theorem pk_of {s : Int} {t : ByteArray} {T : QT} (h : trO s t = some T) (x y : Nat) (a : ByteArray) : pkL t.data.toList (T.lf (sdN s) x y a) = T.pk (sdN s) ∧ t.data.toList.countP plain = (T.lf (sdN s) x y a).length := by
  obtain ⟨_, h2, h3, _⟩ := trO_facts h
  refine ⟨?_, ?_⟩
  · have := pkL_txt (sdN s) T h3 x y a [] []
    rw [List.append_nil, List.append_nil, pkL_nil, List.append_nil] at this
    rw [h2]; exact this
  · rw [h2]; exact plain_txt (sdN s) T h3 x y a
theorem lf_few {s : Int} {t : ByteArray} {T : QT} (h : trO s t = some T) (x y : Nat) (a : ByteArray) : (T.lf (sdN s) x y a).length ≤ 256 := by
  obtain ⟨h1, _, h3, _⟩ := trO_facts h
  refine Nat.le_trans (lf_len _ T h3 x y a) ?_
  exact Nat.le_trans (Nat.pow_le_pow_right (by decide) (sdB_iff h1).1) (by decide)
set_option maxHeartbeats 1000000 in
theorem packTreeI_any (s : Int) (t : ByteArray) (w : World) (ht : t.size ≤ 1048576) :
    Calls Tryd.prog 32 #[.agg #[.int .i64 s, .string t]] w fun e w' => e = .returned (.tuple #[.string (ptV s t), .bool (ptB s t)]) ∧ Below w.heap.size w w' := by
  obtain ⟨w1, hw1⟩ : ∃ w1, w.alloc (.cells #[.int .i64 s, .string t] 45) = w1 := ⟨_, rfl⟩
  have T1 : Blk w1 w.heap.size 45 #[.int .i64 s, .string t] := by rw [← hw1]; exact Blk.made _ _ _
  have B1 : Below w.heap.size w w1 := by rw [← hw1]; exact Ext.more (Ext.refl _) _
  have HW := Lib.hid hw1
  have c0 := T1.cell 0
  have c1 := T1.cell 1
  simp at c0 c1
  have LV := Lib.hid (leavesOf_any s t w1 ht)
  clear hw1
  go_enter Tryd.func32, Tryd.ntmps32
  go_wp2_with fail
  try simp only [HW.out]
  refine LV.out.mono ?_
  rintro e w2 ⟨hb2, hm⟩
  have T2 := T1.under hb2 T1.lt
  have B2 := Ext.then_ B1 hb2
  have c0 := T2.cell 0
  have c1 := T2.cell 1
  simp at c0 c1
  clear T1 T2 LV
  cases hT : trO s t with
  | none =>
    rw [hT] at hm
    obtain ⟨A, m, c, rfl⟩ := hm
    have F := Lib.hid (pt_no hT)
    clear hT
    go_wp2_with fail
    go_ret2
    exact ⟨by rw [F.out.1, F.out.2]; rfl, B2⟩
  | some T =>
    rw [hT] at hm
    obtain ⟨g, c, rfl, ho⟩ := hm
    have F := Lib.hid (pt_yes hT)
    have PK := pk_of hT 0 0 ByteArray.empty
    have few := lf_few hT 0 0 ByteArray.empty
    have gl := (ho.lt g rfl).2
    have PT := packTree_any s t (T.lf (sdN s) 0 0 ByteArray.empty) g c w2 ht (by omega) gl (fun j u hu => by
      have := ho.cells (g := g) rfl j u hu
      rwa [Addr.add_lit, Nat.zero_add] at this) PK.2
    rw [PK.1] at PT
    have HP := Lib.hid PT
    clear PK ho hT PT
    generalize (T.lf (sdN s) 0 0 ByteArray.empty).length = m at *
    go_wp2_with fail
    refine HP.out.mono ?_
    rintro e w3 ⟨rfl, hb3⟩
    have B3 := Ext.then_ B2 hb3
    go_wp2_with fail
    go_ret2
    exact ⟨by rw [F.out.1, F.out.2]; rfl, B3⟩
end Go.Proofs.YtogefmkplkddoaaDoor
