/- The reference's least heights to the edge. -/
import Derived.Test.YtajepoopicoodaaPsS
namespace Go.Proofs.Ytajepoopicoodaa
open Go.RowKit

def edgeTo (W H k : Nat) : List Int := ((List.range k).filter (edgeB W H)).map fun i => ((i : Nat) : Int)
theorem edgeTo_succ (W H k : Nat) : edgeTo W H (k + 1) = if edgeB W H k = true then edgeTo W H k ++ [((k : Nat) : Int)] else edgeTo W H k := by
  unfold edgeTo
  rw [List.range_succ, List.filter_append, List.map_append]
  cases h : edgeB W H k <;> simp [h]
theorem edgeTo_len (W H k : Nat) : (edgeTo W H k).length ≤ k := by
  unfold edgeTo
  rw [List.length_map]
  exact Nat.le_trans (List.length_filter_le _ _) (by simp)
theorem edgeTo_mem (W H k i : Nat) : ((i : Nat) : Int) ∈ edgeTo W H k ↔ i < k ∧ edgeB W H i = true := by
  unfold edgeTo
  rw [List.mem_map]
  constructor
  · rintro ⟨j, hj, e⟩
    rw [List.mem_filter, List.mem_range] at hj
    obtain rfl : j = i := by omega
    exact hj
  · intro h
    exact ⟨i, by rw [List.mem_filter, List.mem_range]; exact h, rfl⟩
theorem edgeTo_bd (W H k : Nat) : ∀ v ∈ edgeTo W H k, 0 ≤ v ∧ v < k := by
  intro v hv
  unfold edgeTo at hv
  rw [List.mem_map] at hv
  obtain ⟨j, hj, rfl⟩ := hv
  rw [List.mem_filter, List.mem_range] at hj
  omega
theorem IsPass.congrFn {W n : Nat} {G : Nat → Int} {F F' : Nat → Prop} {O : Nat → Int} (h : IsPass W n G F O) (e : ∀ i, i < n → (F i ↔ F' i)) : IsPass W n G F' O := by
  have to : ∀ {A B : Nat → Prop} {k : Int} {i : Nat}, (∀ i, i < n → A i → B i) → Way W n G A k i → Way W n G B k i := by
    intro A B k i hab w
    induction w with
    | start i hi hF hG => exact .start i hi (hab i hi hF) hG
    | step q s _ ha hG ih => exact .step q s ih ha hG
  refine ⟨fun i hi => ?_, fun i k w => h.least i k (to (fun i hi => (e i hi).2) w)⟩
  obtain ⟨a, b, d⟩ := h.sound i hi
  exact ⟨a, b, fun hl => to (fun i hi => (e i hi).1) (d hl)⟩

set_option maxRecDepth 100000 in
set_option maxHeartbeats 4000000 in
theorem spillsS_any (p : Nat) (A : Option Addr) (c : Nat) (rows : List (List Int)) (W H n : Nat) (w : World) (h : GreyAt w p A c rows) (g : GreyN rows W H n) :
    Calls Try.prog 68 #[.pointer (some ⟨p, 0, none⟩)] w fun e w' => ∃ g O, e = .returned (.slice (some ⟨g, 0, none⟩) n n) ∧ w.heap.size ≤ g ∧ Blk w' g 2 (intC (fL O n)) ∧ Hid (IsPass W n (gF rows W) (fun i => edgeB W H i = true) O) ∧ Below w.heap.size w w' := by
  obtain ⟨x1, x2, x3, x4⟩ := g.w1
  have hnl : n ≤ 256 := by rw [g.n]; exact Nat.le_trans (Nat.mul_le_mul x2 x4) (by decide)
  have GG := Lib.hid (fun V (hV : Below w.heap.size w V) => widthG_any p A c rows V (h.ext hV) (by rw [g.h]; exact x3))
  rw [g.w] at GG
  have LG := Lib.hid (fun V (hV : Below w.heap.size w V) => list_any A c rows W H n V (h.rd.ext hV) g.h g.row x1 x2 x4 (by rw [g.n, Nat.mul_comm]))
  have PG := Lib.hid (fun V A1 A2 c1 c2 (r1 : Rd V A1 (ints rows.flatten)) (r2 : Rd V A2 (ints (edgeTo W H n))) => passes_any W H n (edgeTo W H n).length A1 A2 c1 c2 rows.flatten (edgeTo W H n) V x1 x2 x4 g.n g.len rfl (by have := edgeTo_len W H n; omega) g.bd (edgeTo_bd W H n) r1 r2 (gF rows W) g.get)
  have CC := Lib.hid (fun V (hV : Below w.heap.size w V) => (show V.cell? ⟨p, 0, none⟩ = some (.slice A H c) by have := (h.ext hV).cell; rwa [g.h] at this))
  have EM : Hid (∀ i, i < n → ((i : Int) ∈ edgeTo W H n ↔ edgeB W H i = true)) := fun i hi => by rw [edgeTo_mem]; simp [hi]
  have hn := Lib.hid g.n
  have HLT := Lib.hid (fun V (hV : Below w.heap.size w V) => (h.ext hV).lt)
  have E0 : Hid (edgeTo W H 0 = []) := rfl
  have EL := Lib.hid (edgeTo_len W H)
  clear h g
  go_enter Try.func68, Try.ntmps68
  go_wp2_with fail
  refine (GG.out _ (Ext.refl _)).mono ?_
  rintro e w' ⟨rfl, rfl⟩
  have k0 := CC.out w (Ext.refl _)
  have hlt := HLT.out w (Ext.refl _)
  go_wp2_with fail
  refine (LG.out _ (Ext.refl _)).mono ?_
  rintro e w1 ⟨A1, c1, rfl, own1, hb1⟩
  have hrow0 := World.ownsRow_lit (e := 2) (size := 1) w1 #[] 0 (Nat.le_refl _) (by decide) rfl
  have B0 : Below w1.heap.size w1 (w1.alloc (.cells #[] 2)) := Ext.more (Ext.refl _) _
  have R1 := Lib.hid (Rd.of_own own1)
  have HB1 := Lib.hid hb1
  clear k0 hlt own1 hb1
  go_wp2_with fail
  generalize w1.alloc (.cells #[] 2) = w2 at *
  go_loopw [5, 19] (fun v i wr => ∃ k gb cb : Nat, k ≤ n ∧ i = .int .i64 k ∧ v = .slice (some ⟨gb, 0, none⟩) (edgeTo W H k).length cb ∧ wr.ownsRow w1.heap.size 2 1 (.slice (some ⟨gb, 0, none⟩) (edgeTo W H k).length cb) (edgeTo W H k).length (ints (edgeTo W H k)) ∧ Below w1.heap.size w1 wr) (fun _ i _ => n - (intOf i).toNat)
  case atStart => exact ⟨0, w1.heap.size, 0, Nat.zero_le _, rfl, by rw [E0.out]; rfl, by rw [E0.out]; exact hrow0, B0⟩
  case round =>
    obtain ⟨k, gb, cb, hk, rfl, rfl, hown, hb⟩ := hrel
    clear hrow0 B0
    by_cases hlt : k < n
    · obtain ⟨ek, hx⟩ := pl_eq (W := W) k x1
      have hy : k / W < H := pl_row (by rw [← hn.out]; exact hlt)
      have m1 : (k : Int) % (W : Int) = ((k % W : Nat) : Int) := by rw [Int.natCast_emod]
      have m2 : (k : Int) / (W : Int) = ((k / W : Nat) : Int) := by rw [Int.natCast_ediv]
      have m4 : (k : Int).tmod (W : Int) = ((k % W : Nat) : Int) := by rw [Int.tmod_eq_emod_of_nonneg (by omega), m1]
      have m5 : (k : Int).tdiv (W : Int) = ((k / W : Nat) : Int) := by rw [Int.tdiv_eq_ediv_of_nonneg (by omega), m2]
      have ES := Lib.hid (edgeTo_succ W H k)
      have EB : Hid (edgeB W H k = (decide (k % W = 0) || decide (k / W = 0) || decide (k % W + 1 = W) || decide (k / W + 1 = H))) := rfl
      have c0 := CC.out wr (Ext.then_ HB1.out hb)
      have hpl := HLT.out wr (Ext.then_ HB1.out hb)
      have hsz := hb.size
      have nl := EL.out k
      generalize k % W = x at *
      generalize k / W = y at *
      generalize hln : (edgeTo W H k).length = ln at *
      have HLN := Lib.hid hln
      have iW : (W : Int) ≠ 0 := by omega
      clear hln ek
      by_cases a0 : x = 0
      · have t0 : ((x : Int) == 0) = true := by simp [a0]
        have FN : Hid (edgeTo W H (k + 1) = edgeTo W H k ++ [((k : Nat) : Int)]) := by
          rw [Hid, ES.out, if_pos]; rw [EB.out]; simp [a0]
        clear a0 ES EB
        go_wp2_with (at_builtin; refine wpList_app intT (by rfl) _ _ (by rfl) w1.heap.size (.slice (some ⟨gb, 0, none⟩) ln cb) ln (ints (edgeTo W H k)) (by rfl) (hown.alloc _) wr.heap.size #[.int .i64 k] (by rfl) (heap_alloc_new _ _) rfl (by simp [Value.oneCell']) (by omega) (by simp; omega) ?_; intro g3 cap3 w3 hown3 hgrow3 hat3 hlt3)
        have hown4 : w3.ownsRow w1.heap.size 2 1 (.slice (some ⟨g3, 0, none⟩) (ln + 1) cap3) (ln + 1) (ints (edgeTo W H (k + 1))) := by
          rw [FN.out]; simpa [ints] using hown3
        have B3 : Below w1.heap.size w1 w3 := (hb.alloc hsz _).grown hgrow3 (by simp; omega) (fun z hz => (hown.lt z hz).1)
        have HL4 : Hid ((edgeTo W H (k + 1)).length = ln + 1) := by rw [Hid, FN.out, List.length_append, HLN.out]; rfl
        clear hown3 hgrow3 hat3
        go_wp2_with fail
        go_roundw
        case rel => exact ⟨k + 1, g3, cap3, by omega, by go_num, by rw [HL4.out], by rw [HL4.out]; exact hown4, B3⟩
        case measure => simp [intOf]; omega
      · have t0 : ((x : Int) == 0) = false := by simp; omega
        by_cases a1 : y = 0
        · have t1 : ((y : Int) == 0) = true := by simp [a1]
          have FN : Hid (edgeTo W H (k + 1) = edgeTo W H k ++ [((k : Nat) : Int)]) := by
            rw [Hid, ES.out, if_pos]; rw [EB.out]; simp [a1]
          clear a0 a1 ES EB
          go_wp2_with (at_builtin; refine wpList_app intT (by rfl) _ _ (by rfl) w1.heap.size (.slice (some ⟨gb, 0, none⟩) ln cb) ln (ints (edgeTo W H k)) (by rfl) (hown.alloc _) wr.heap.size #[.int .i64 k] (by rfl) (heap_alloc_new _ _) rfl (by simp [Value.oneCell']) (by omega) (by simp; omega) ?_; intro g3 cap3 w3 hown3 hgrow3 hat3 hlt3)
          have hown4 : w3.ownsRow w1.heap.size 2 1 (.slice (some ⟨g3, 0, none⟩) (ln + 1) cap3) (ln + 1) (ints (edgeTo W H (k + 1))) := by
            rw [FN.out]; simpa [ints] using hown3
          have B3 : Below w1.heap.size w1 w3 := (hb.alloc hsz _).grown hgrow3 (by simp; omega) (fun z hz => (hown.lt z hz).1)
          have HL4 : Hid ((edgeTo W H (k + 1)).length = ln + 1) := by rw [Hid, FN.out, List.length_append, HLN.out]; rfl
          clear hown3 hgrow3 hat3
          go_wp2_with fail
          go_roundw
          case rel => exact ⟨k + 1, g3, cap3, by omega, by go_num, by rw [HL4.out], by rw [HL4.out]; exact hown4, B3⟩
          case measure => simp [intOf]; omega
        · have t1 : ((y : Int) == 0) = false := by simp; omega
          by_cases a2 : x + 1 = W
          · have t2 : ((x : Int) == (W : Int) - 1) = true := by simp; omega
            have FN : Hid (edgeTo W H (k + 1) = edgeTo W H k ++ [((k : Nat) : Int)]) := by
              rw [Hid, ES.out, if_pos]; rw [EB.out]; simp [a2]
            clear a0 a1 a2 ES EB
            go_wp2_with (at_builtin; refine wpList_app intT (by rfl) _ _ (by rfl) w1.heap.size (.slice (some ⟨gb, 0, none⟩) ln cb) ln (ints (edgeTo W H k)) (by rfl) (hown.alloc _) wr.heap.size #[.int .i64 k] (by rfl) (heap_alloc_new _ _) rfl (by simp [Value.oneCell']) (by omega) (by simp; omega) ?_; intro g3 cap3 w3 hown3 hgrow3 hat3 hlt3)
            have hown4 : w3.ownsRow w1.heap.size 2 1 (.slice (some ⟨g3, 0, none⟩) (ln + 1) cap3) (ln + 1) (ints (edgeTo W H (k + 1))) := by
              rw [FN.out]; simpa [ints] using hown3
            have B3 : Below w1.heap.size w1 w3 := (hb.alloc hsz _).grown hgrow3 (by simp; omega) (fun z hz => (hown.lt z hz).1)
            have HL4 : Hid ((edgeTo W H (k + 1)).length = ln + 1) := by rw [Hid, FN.out, List.length_append, HLN.out]; rfl
            clear hown3 hgrow3 hat3
            go_wp2_with fail
            go_roundw
            case rel => exact ⟨k + 1, g3, cap3, by omega, by go_num, by rw [HL4.out], by rw [HL4.out]; exact hown4, B3⟩
            case measure => simp [intOf]; omega
          · have t2 : ((x : Int) == (W : Int) - 1) = false := by simp; omega
            by_cases a3 : y + 1 = H
            · have t3 : ((y : Int) == (H : Int) - 1) = true := by simp; omega
              have FN : Hid (edgeTo W H (k + 1) = edgeTo W H k ++ [((k : Nat) : Int)]) := by
                rw [Hid, ES.out, if_pos]; rw [EB.out]; simp [a3]
              clear a0 a1 a2 a3 ES EB
              go_wp2_with (at_builtin; refine wpList_app intT (by rfl) _ _ (by rfl) w1.heap.size (.slice (some ⟨gb, 0, none⟩) ln cb) ln (ints (edgeTo W H k)) (by rfl) (hown.alloc _) wr.heap.size #[.int .i64 k] (by rfl) (heap_alloc_new _ _) rfl (by simp [Value.oneCell']) (by omega) (by simp; omega) ?_; intro g3 cap3 w3 hown3 hgrow3 hat3 hlt3)
              have hown4 : w3.ownsRow w1.heap.size 2 1 (.slice (some ⟨g3, 0, none⟩) (ln + 1) cap3) (ln + 1) (ints (edgeTo W H (k + 1))) := by
                rw [FN.out]; simpa [ints] using hown3
              have B3 : Below w1.heap.size w1 w3 := (hb.alloc hsz _).grown hgrow3 (by simp; omega) (fun z hz => (hown.lt z hz).1)
              have HL4 : Hid ((edgeTo W H (k + 1)).length = ln + 1) := by rw [Hid, FN.out, List.length_append, HLN.out]; rfl
              clear hown3 hgrow3 hat3
              go_wp2_with fail
              go_roundw
              case rel => exact ⟨k + 1, g3, cap3, by omega, by go_num, by rw [HL4.out], by rw [HL4.out]; exact hown4, B3⟩
              case measure => simp [intOf]; omega
            · have t3 : ((y : Int) == (H : Int) - 1) = false := by simp; omega
              have FN : Hid (edgeTo W H (k + 1) = edgeTo W H k) := by
                rw [Hid, ES.out, if_neg]; rw [EB.out]; simp [a0, a1, a2, a3]
              clear a0 a1 a2 a3 ES EB
              go_wp2_with fail
              go_roundw
              case rel => exact ⟨k + 1, gb, cb, by omega, by go_num, by rw [FN.out, HLN.out], by rw [FN.out, HLN.out]; exact hown, hb⟩
              case measure => simp [intOf]; omega
    · obtain rfl : n = k := by omega
      have R2 := Lib.hid (Rd.of_own hown)
      have HX := Lib.hid hb
      clear hown hb
      go_wp2_with fail
      refine (PG.out _ _ _ _ _ (R1.out.ext HX.out) R2.out).mono ?_
      rintro e w3 ⟨g2, O, rfl, hg2, hO, hP, hb2⟩
      have z1 := HB1.out.size
      have z2 := HX.out.size
      have hgo : w.heap.size ≤ g2 := by omega
      have HO := Lib.hid hO
      have HP2 : Hid (IsPass W n (gF rows W) (fun i => edgeB W H i = true) O) := IsPass.congrFn hP.out EM.out
      have HB4 := Lib.hid (Ext.then_ (Ext.then_ HB1.out HX.out) hb2)
      clear hO hP hb2 EM PG GG LG CC HLT hg2 z1 z2
      go_wp2_with fail
      go_ret
      exact ⟨g2, O, rfl, hgo, HO.out, HP2, HB4.out⟩
end Go.Proofs.Ytajepoopicoodaa
