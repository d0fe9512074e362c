/- Codes come back: the plain part of FnPacked. -/
import Derived.Test.YtogefmkplkddoaaDoorUppP
import Derived.Test.YtogefmkplkddoaaDoorNumI
import Derived.Test.YtogefmkplkddoaaDoorTripM
import Derived.Test.YtogefmkplkddoaaDoorUtP
namespace Go.Proofs.YtogefmkplkddoaaDoor
open Go.RowKit

theorem bins_len_pos {n : Nat} (h : n ≠ 0) : 0 < (bins n).length := by rw [bins_pos h]; simp
theorem bins_bits : ∀ (n : Nat), ∀ b ∈ bins n, b = 48 ∨ b = 49 := by
  intro n
  induction n using Nat.strongRecOn with
  | ind n ih =>
    intro b hb
    by_cases h : n = 0
    · subst h; rw [bins_zero] at hb; simp at hb
    · rw [bins_pos h, List.mem_append] at hb
      rcases hb with hb | hb
      · exact ih (n / 2) (by omega) b hb
      · simp only [List.mem_singleton] at hb
        rw [hb]
        rcases Nat.mod_two_eq_zero_or_one n with e | e <;> rw [e]
        · exact .inl rfl
        · exact .inr rfl
theorem bins_head : ∀ (n : Nat), n ≠ 0 → ∀ r, (bins n ++ r).getD 0 0 = 49 := by
  intro n
  induction n using Nat.strongRecOn with
  | ind n ih =>
    intro h r
    rw [bins_pos h, List.append_assoc]
    by_cases h2 : n / 2 = 0
    · have : n = 1 := by omega
      subst this
      rw [show 1 / 2 = 0 from rfl, bins_zero]; rfl
    · exact ih (n / 2) (by omega) h2 _
theorem vTo_take {bs cs : List UInt8} : ∀ (k : Nat), (∀ j, j < k → bs.getD j 0 = cs.getD j 0) → vTo bs k = vTo cs k
  | 0, _ => rfl
  | k + 1, h => by rw [vTo, vTo, vTo_take k (fun j hj => h j (by omega)), h k (by omega)]
theorem vTo_bins : ∀ (n : Nat) (r : List UInt8), vTo (bins n ++ r) (bins n).length = n := by
  intro n
  induction n using Nat.strongRecOn with
  | ind n ih =>
    intro r
    by_cases h : n = 0
    · subst h; rw [bins_zero]; rfl
    · have e : bins n = bins (n / 2) ++ [UInt8.ofNat (48 + n % 2)] := bins_pos h
      rw [e, List.append_assoc, List.length_append, List.length_singleton, vTo, ih (n / 2) (by omega)]
      have : (bins (n / 2) ++ ([UInt8.ofNat (48 + n % 2)] ++ r)).getD (bins (n / 2)).length 0 = UInt8.ofNat (48 + n % 2) := by
        rw [List.getD_eq_getElem?_getD, List.getElem?_append_right (Nat.le_refl _), Nat.sub_self]; rfl
      rw [this]
      rcases Nat.mod_two_eq_zero_or_one n with e | e <;> rw [e]
      · rw [show (UInt8.ofNat (48 + 0)).toNat - 48 = 0 from rfl]; omega
      · rw [show (UInt8.ofNat (48 + 1)).toNat - 48 = 1 from rfl]; omega
/-- A code is read. -/
theorem step_code {n : Nat} (h1 : 1 ≤ n) (h2 : n ≤ 1000000000) (r : List UInt8) : nmStep (codeL n ++ r) = some (n, r) := by
  have hp := bins_len_pos (n := n) (by omega)
  have h31 := bins_31 (n := n) (by omega)
  obtain ⟨k, hk⟩ : ∃ k, (bins n).length = k + 1 := ⟨(bins n).length - 1, by omega⟩
  have e : codeL n ++ r = zerosL k ++ (bins n ++ r) := by rw [codeL, hk, Nat.add_sub_cancel, List.append_assoc]
  have hz : zrs (codeL n ++ r) = k := by
    rw [e]
    refine zrs_is (by simp [zerosL_length]) (fun j hj => ?_) (fun _ => ?_)
    · rw [List.getD_eq_getElem?_getD, List.getElem?_append_left (by rw [zerosL_length]; exact hj)]
      simp [zerosL, hj]
    · rw [List.getD_eq_getElem?_getD, List.getElem?_append_right (by rw [zerosL_length]; exact Nat.le_refl _), zerosL_length, Nat.sub_self, ← List.getD_eq_getElem?_getD, bins_head n (by omega)]
      decide
  have hd : (codeL n ++ r).drop k = bins n ++ r := by
    rw [e, List.drop_append_of_le_length (by rw [zerosL_length]; exact Nat.le_refl _), List.drop_of_length_le (by rw [zerosL_length]; exact Nat.le_refl _), List.nil_append]
  have hl : (codeL n ++ r).length = k + (k + 1) + r.length := by rw [e]; simp [zerosL_length, hk]; omega
  have hv : vTo (bins n ++ r) (k + 1) = n := by rw [← hk]; exact vTo_bins n r
  have ht : (bins n ++ r).take (k + 1) = bins n := by rw [← hk]; exact List.take_left
  have ha : ((bins n).all fun b => b == 48 || b == 49) = true := by
    rw [List.all_eq_true]
    intro b hb
    rcases bins_bits n b hb with rfl | rfl <;> rfl
  have hr : (codeL n ++ r).drop (2 * k + 1) = r := by
    rw [show 2 * k + 1 = k + (k + 1) by omega, ← List.drop_drop, hd, ← hk]
    exact List.drop_left
  unfold nmStep
  rw [hz, if_neg (by omega), hd, ht, ha, hv, if_pos ⟨rfl, h2⟩, hr]
def cdL (ns : List Nat) : List UInt8 := (ns.map codeL).flatten
theorem cdL_cons (n : Nat) (ns : List Nat) : cdL (n :: ns) = codeL n ++ cdL ns := by simp [cdL]
theorem cdL_app (ns ms : List Nat) : cdL (ns ++ ms) = cdL ns ++ cdL ms := by simp [cdL]
theorem codeL_ne {n : Nat} (h : n ≠ 0) : codeL n ≠ [] := by
  intro e
  have := congrArg List.length e
  rw [codeL_length] at this
  have := bins_len_pos h
  simp at *; omega
/-- Codes are read, one after another. -/
theorem nmV_codes : ∀ (ns : List Nat), (∀ n ∈ ns, 1 ≤ n ∧ n ≤ 1000000000) → ∀ t, nmV (cdL ns ++ t) = (nmV t).map (ns.map (fun n : Nat => (n : Int)) ++ ·)
  | [], _, t => by simp [cdL]
  | n :: ns, h, t => by
    obtain ⟨h1, h2⟩ := h n (List.mem_cons_self ..)
    rw [cdL_cons, List.append_assoc, nmV_good (by simp [codeL_ne (show n ≠ 0 by omega)]) (step_code h1 h2 _), nmV_codes ns (fun m hm => h m (List.mem_cons_of_mem _ hm)) t]
    cases nmV t <;> simp
theorem nmV_all {ns : List Nat} (h : ∀ n ∈ ns, 1 ≤ n ∧ n ≤ 1000000000) : nmV (cdL ns) = some (ns.map (fun n : Nat => (n : Int))) := by
  have := nmV_codes ns h []
  rw [List.append_nil, nmV_nil] at this
  rw [this]; simp
/-- The numbers of a picture's code. -/
def pkN (R : List Bool) (W H : Nat) : List Nat := W :: H :: (colR R).map fun n => (n + 1).toNat
theorem packL_cd : ∀ (ns : List Int) (b : ByteArray), (packL b ns).data.toList = b.data.toList ++ cdL (ns.map fun n => (n + 1).toNat)
  | [], b => by simp [packL, cdL]
  | n :: ns, b => by
    have := packL_cd ns (b ++ codeB (n + 1).toNat)
    rw [List.map_cons, cdL_cons]
    show (packL (b ++ codeB (n + 1).toNat) ns).data.toList = _
    rw [this]
    simp [codeB]
theorem pack_cd {L : List Bool} {W H : Nat} (hH0 : 0 < H) (hL : L.length = W * H) : (packB (rowsTo L W H)).data.toList = cdL (pkN (resL L W H) W H) := by
  rw [packB, told_w hH0, told_bits hH0 hL, rowsTo_length, packL_cd, pkN, cdL_cons, cdL_cons]
  simp [codeB]
theorem col_mem {R : List Bool} : ∀ n ∈ colR R, 0 ≤ n ∧ n ≤ (R.length : Int) := run_mem (Nat.le_refl _)
theorem pkN_ok {R : List Bool} {W H : Nat} (hR : R.length ≤ 1000) (hW : 1 ≤ W ∧ W ≤ 16) (hH : 1 ≤ H ∧ H ≤ 16) : ∀ n ∈ pkN R W H, 1 ≤ n ∧ n ≤ 1000000000 := by
  intro n hn
  rw [pkN, List.mem_cons, List.mem_cons, List.mem_map] at hn
  rcases hn with rfl | rfl | ⟨m, hm, rfl⟩
  · omega
  · omega
  · have := col_mem m hm
    omega
theorem sum_drop {l : List Int} {k : Nat} : l.sum = (l.take k).sum + (l.drop k).sum := by
  conv => lhs; rw [← List.take_append_drop k l]
  rw [List.sum_append]
theorem sum_pos : ∀ {l : List Int}, l ≠ [] → (∀ n ∈ l, 0 < n) → 0 < l.sum
  | [], h, _ => absurd rfl h
  | [a], _, h => by have := h a (List.mem_cons_self ..); simp; omega
  | a :: b :: l, _, h => by
    have h1 := h a (List.mem_cons_self ..)
    have h2 := sum_pos (l := b :: l) (by simp) (fun n hn => h n (List.mem_cons_of_mem _ hn))
    rw [List.sum_cons]; omega
theorem map_inj : ∀ {l m : List Int}, (∀ n ∈ l, 0 ≤ n) → (∀ n ∈ m, 0 ≤ n) → (l.map fun n => (n + 1).toNat) = (m.map fun n => (n + 1).toNat) → l = m
  | [], [], _, _, _ => rfl
  | [], _ :: _, _, _, h => by cases h
  | _ :: _, [], _, _, h => by cases h
  | a :: l, b :: m, h1, h2, h => by
    simp only [List.map_cons, List.cons.injEq] at h
    have e1 := h1 a (List.mem_cons_self ..)
    have e2 := h2 b (List.mem_cons_self ..)
    rw [map_inj (fun n hn => h1 n (List.mem_cons_of_mem _ hn)) (fun n hn => h2 n (List.mem_cons_of_mem _ hn)) h.2, show a = b by omega]
/-- No picture's code is the beginning of another one's. -/
theorem pack_prefix {R R' : List Bool} {W H W' H' : Nat} {t : List UInt8} (hR : R.length = W * H) (hR' : R'.length = W' * H') (hW : 1 ≤ W ∧ W ≤ 16) (hH : 1 ≤ H ∧ H ≤ 16) (hW' : 1 ≤ W' ∧ W' ≤ 16) (hH' : 1 ≤ H' ∧ H' ≤ 16)
    (h : cdL (pkN R' W' H') = cdL (pkN R W H) ++ t) : t = [] := by
  have b1 : W * H ≤ 16 * 16 := Nat.mul_le_mul hW.2 hH.2
  have b2 : W' * H' ≤ 16 * 16 := Nat.mul_le_mul hW'.2 hH'.2
  have e1 := nmV_all (pkN_ok (R := R') (by omega) hW' hH')
  rw [h, nmV_codes _ (pkN_ok (R := R) (by omega) hW hH)] at e1
  cases hs : nmV t with
  | none => rw [hs] at e1; cases e1
  | some s =>
    rw [hs] at e1
    simp only [Option.map_some, Option.some.injEq] at e1
    have ej : ∀ (l m : List Nat), (l.map fun n : Nat => (n : Int)) = (m.map fun n : Nat => (n : Int)) → l = m := by
      intro l
      induction l with
      | nil => intro m h; cases m with
        | nil => rfl
        | cons => cases h
      | cons a l ih => intro m h; cases m with
        | nil => cases h
        | cons b m =>
          simp only [List.map_cons, List.cons.injEq] at h
          rw [ih m h.2, show a = b by omega]
    have e2 : pkN R W H = (pkN R' W' H').take (pkN R W H).length := by
      refine ej _ _ ?_
      rw [List.map_take, ← e1, List.take_left' (by simp)]
    simp only [pkN, List.length_cons, List.length_map, List.take_succ_cons, List.cons.injEq] at e2
    obtain ⟨rfl, rfl, e3⟩ := e2
    rw [← List.map_take] at e3
    have e4 := map_inj (fun n hn => (col_mem n hn).1) (fun n hn => (col_mem n (List.mem_of_mem_take hn)).1) e3
    have f1 := colR_facts R
    have f2 := colR_facts R'
    have hk : 0 < (colR R).length := (colTo_bd R R.length (Nat.le_refl _)).1
    have sm : ((colR R').drop (colR R).length).sum = 0 := by
      have := sum_drop (l := colR R') (k := (colR R).length)
      rw [← e4, f1.2.1, f2.2.1, hR, hR'] at this
      omega
    have dn : (colR R').drop (colR R).length = [] := by
      by_cases hd : (colR R').drop (colR R).length = []
      · exact hd
      · have := sum_pos hd (fun n hn => by
          obtain ⟨i, hi, rfl⟩ := List.getElem_of_mem hn
          rw [List.length_drop] at hi
          rw [List.getElem_drop]
          have h1 := f2.2.2 ((colR R).length + i) (by omega) (by omega)
          have h2 := col_mem (R := R') _ (List.getElem_mem (show (colR R).length + i < (colR R').length by omega))
          rw [List.getD_eq_getElem?_getD, List.getElem?_eq_getElem (by omega), Option.getD_some] at h1
          omega)
        omega
    have e5 : colR R' = colR R := by rw [e4]; exact (List.take_of_length_le (by have := congrArg List.length dn; simp at this; omega)).symm
    have e6 : pkN R' W H = pkN R W H := by rw [pkN, e5]; rfl
    rw [e6] at h
    have := congrArg List.length h
    rw [List.length_append] at this
    exact List.eq_nil_of_length_eq_zero (by omega)
theorem pfx_exp (l : List Int) (a b : Int) : ∀ k, k ≤ l.length → pfx (a :: b :: l.map fun n => (((n + 1).toNat : Nat) : Int)) k = expR false ((l.take k)) ∨ ∃ n ∈ l, n < 0 := by
  intro k
  induction k with
  | zero => intro _; left; simp [pfx, expR]
  | succ k ih =>
    intro hk
    rcases ih (by omega) with e | e
    · by_cases hn : 0 ≤ l[k]
      · left
        rw [pfx, e, List.take_succ_eq_append_getElem (by omega), expR_append]
        congr 1
        have : (a :: b :: l.map fun n => (((n + 1).toNat : Nat) : Int)).getD (k + 2) 0 = (((l[k] + 1).toNat : Nat) : Int) := by
          simp [List.getD_eq_getElem?_getD, List.getElem?_eq_getElem (show k < l.length by omega)]
        rw [this, List.length_take, show min k l.length = k by omega]
        simp only [expR, List.append_nil]
        rw [show ((((l[k] + 1).toNat : Nat) : Int) - 1).toNat = l[k].toNat by omega]
        congr 1
      · exact .inr ⟨l[k], List.getElem_mem _, by omega⟩
    · exact .inr e
theorem cdL_len {m : Nat} : ∀ (ns : List Nat), (∀ n ∈ ns, n < 2 ^ m) → (cdL ns).length ≤ (2 * m) * ns.length
  | [], _ => by simp [cdL]
  | n :: ns, h => by
    have ih := cdL_len ns (fun k hk => h k (List.mem_cons_of_mem _ hk))
    have h1 := bins_bd m n (h n (List.mem_cons_self ..))
    rw [cdL_cons, List.length_append, codeL_length, List.length_cons, Nat.mul_add]
    omega
/-- A picture with at most 8 columns and rows comes back from its code. -/
theorem up_pack {L : List Bool} {W H : Nat} (hW : 1 ≤ W ∧ W ≤ 8) (hH : 1 ≤ H ∧ H ≤ 8) (hL : L.length = W * H) :
    uOk (packB (rowsTo L W H)) = true ∧ uRows (packB (rowsTo L W H)) = rowsTo L W H := by
  have b1 : W * H ≤ 8 * 8 := Nat.mul_le_mul hW.2 hH.2
  have hc := pack_cd (L := L) (W := W) (H := H) (by omega) hL
  have hR : (resL L W H).length = W * H := by simp [resL]
  have hlen : (packB (rowsTo L W H)).size ≤ 2000 := by
    show (packB (rowsTo L W H)).data.size ≤ 2000
    rw [← Array.length_toList, hc]
    have f1 := (colR_facts (resL L W H)).1
    have := cdL_len (m := 7) (pkN (resL L W H) W H) (fun n hn => by
      rw [pkN, List.mem_cons, List.mem_cons, List.mem_map] at hn
      rcases hn with rfl | rfl | ⟨m, hm, rfl⟩
      · exact Nat.lt_of_le_of_lt hW.2 (by decide)
      · exact Nat.lt_of_le_of_lt hH.2 (by decide)
      · have := col_mem m hm
        have : (m + 1).toNat ≤ 65 := by omega
        exact Nat.lt_of_le_of_lt this (by decide))
    have hl : (pkN (resL L W H) W H).length = (colR (resL L W H)).length + 2 := by simp [pkN]
    rw [hl] at this
    omega
  have hn : nmR (packB (rowsTo L W H)) = some ((pkN (resL L W H) W H).map fun n : Nat => (n : Int)) := by
    rw [nmR, if_pos hlen, hc]
    exact nmV_all (pkN_ok (by omega) ⟨hW.1, by omega⟩ ⟨hH.1, by omega⟩)
  have hO : nmO (packB (rowsTo L W H)) = (pkN (resL L W H) W H).map fun n : Nat => (n : Int) := by rw [nmO, hn]; rfl
  have hB : nmB (packB (rowsTo L W H)) = true := by rw [nmB, hn]; rfl
  have hk : 0 < (colR (resL L W H)).length := (colTo_bd (resL L W H) _ (Nat.le_refl _)).1
  have hw : uW (packB (rowsTo L W H)) = W := by rw [uW, hO]; simp [pkN]
  have hh : uH (packB (rowsTo L W H)) = H := by rw [uH, hO]; simp [pkN]
  have hL2 : uL (packB (rowsTo L W H)) = resL L W H := by
    rw [uL, hO]
    have := pfx_exp (colR (resL L W H)) W H (colR (resL L W H)).length (Nat.le_refl _)
    rcases this with e | ⟨n, hn, h0⟩
    · rw [List.take_length, colR_exp] at e
      simp only [pkN, List.map_cons, List.map_map, List.length_cons, List.length_map]
      exact e
    · have := (col_mem n hn).1; omega
  have hRw : uRows (packB (rowsTo L W H)) = rowsTo L W H := by rw [uRows, hL2, hw, hh, fr_res hL]
  refine ⟨?_, hRw⟩
  rw [uOk, hRw, hL2, hw, hh, uSz, hB, hO]
  have i1 : inB (W : Int) 1 16 = true := inB_iff.2 ⟨by omega, by omega⟩
  have i2 : inB (H : Int) 1 16 = true := inB_iff.2 ⟨by omega, by omega⟩
  simp [pkN, i1, i2, hR]
  omega
/-- Nothing comes from a beginning of a picture's code, and nothing from more. -/
theorem up_not {L : List Bool} {W H : Nat} {s : ByteArray} {t : List UInt8} (hW : 1 ≤ W ∧ W ≤ 8) (hH : 1 ≤ H ∧ H ≤ 8) (hL : L.length = W * H) (ht : t ≠ [])
    (h : s.data.toList ++ t = (packB (rowsTo L W H)).data.toList ∨ s.data.toList = (packB (rowsTo L W H)).data.toList ++ t) : uOk s = false := by
  cases hu : uOk s with
  | false => rfl
  | true =>
    exfalso
    rw [uOk, uSz] at hu
    simp only [Bool.and_eq_true, decide_eq_true_eq] at hu
    obtain ⟨⟨_, _, i1, i2⟩, hl, hp⟩ := hu
    obtain ⟨a0, a1⟩ := inB_iff.1 i1
    obtain ⟨b0, b1⟩ := inB_iff.1 i2
    have hw : 1 ≤ uW s ∧ uW s ≤ 16 := by rw [uW]; omega
    have hh : 1 ≤ uH s ∧ uH s ≤ 16 := by rw [uH]; omega
    have hc := pack_cd (L := frL (uL s) (uW s) (uH s)) (W := uW s) (H := uH s) (by omega) (frL_length _ _ _)
    rw [uRows] at hp
    rw [hp] at hc
    have hc2 := pack_cd (L := L) (W := W) (H := H) (by omega) hL
    rw [hc, hc2] at h
    rcases h with h | h
    · exact ht (pack_prefix (by simp [resL]) (by simp [resL]) hw hh ⟨hW.1, by omega⟩ ⟨hH.1, by omega⟩ h.symm)
    · exact ht (pack_prefix (by simp [resL]) (by simp [resL]) ⟨hW.1, by omega⟩ ⟨hH.1, by omega⟩ hw hh h)
/-- No tree's code is the beginning of another one's. -/
theorem pk_prefix {n : Nat} {S T : QT} {r : List UInt8} (hS : S.fits n = true) (hT : T.fits n = true) (h : T.pk n = S.pk n ++ r) : r = [] := by
  have e1 := up_pk n S r hS
  have e2 := up_pk n T [] hT
  rw [List.append_nil, h, e1] at e2
  simpa using congrArg (fun o => o.map Prod.snd) e2
theorem ut_not {side : Int} {T : QT} {s : ByteArray} {t : List UInt8} (hT : T.fits (sdN side) = true) (ht : t ≠ []) (h : s.data.toList ++ t = T.pk (sdN side) ∨ s.data.toList = T.pk (sdN side) ++ t) : utO side s = none := by
  refine utO_none ?_
  rintro ⟨_, _, S, f1, _, f3⟩
  rw [← f3] at h
  rcases h with h | h
  · exact ht (pk_prefix f1 hT h.symm)
  · exact ht (pk_prefix hT f1 h)
def QT.inn : QT → Nat
  | .leaf _ => 0
  | .node a b c d => 1 + (a.inn + (b.inn + (c.inn + d.inn)))
def bitsL (L : List Lf) : Nat := (L.map fun l => if 1 < l.s then 2 else 1).sum
theorem bitsL_app (L M : List Lf) : bitsL (L ++ M) = bitsL L + bitsL M := by simp [bitsL, List.sum_append]
theorem bits_pk : ∀ (n : Nat) (T : QT), T.fits n = true → ∀ x y a, (T.lf n x y a).length = 3 * T.inn + 1 ∧ (T.pk n).length = T.inn + bitsL (T.lf n x y a)
  | 0, .leaf b, _, x, y, a => by simp [QT.lf, QT.inn, QT.pk, bitsL]
  | n + 1, .leaf b, _, x, y, a => by
    have : 1 < 2 ^ (n + 1) := by rw [Nat.pow_succ]; have := Nat.one_le_two_pow (n := n); omega
    simp [QT.lf, QT.inn, QT.pk, bitsL, this]
  | 0, .node .., h, _, _, _ => by cases h
  | n + 1, .node p q r s, h, x, y, a => by
    simp only [QT.fits, Bool.and_eq_true] at h
    have h1 := bits_pk n p h.1 x y (a ++ dig 0)
    have h2 := bits_pk n q h.2.1 (x + 2 ^ n) y (a ++ dig 1)
    have h3 := bits_pk n r h.2.2.1 x (y + 2 ^ n) (a ++ dig 2)
    have h4 := bits_pk n s h.2.2.2 (x + 2 ^ n) (y + 2 ^ n) (a ++ dig 3)
    simp only [QT.lf, QT.inn, QT.pk, List.length_append, List.length_cons, bitsL_app]
    omega
/-- The numbers of joined codes. -/
theorem nm_codes {s : ByteArray} {ns : List Nat} (h : ∀ n ∈ ns, 1 ≤ n ∧ n ≤ 1000000000) (hs : s.data.toList = cdL ns) (hz : s.size ≤ 2000) : nmO s = ns.map (fun n : Nat => (n : Int)) ∧ nmB s = true := by
  have : nmR s = some (ns.map fun n : Nat => (n : Int)) := by rw [nmR, if_pos hz, hs]; exact nmV_all h
  rw [nmO, nmB, this]
  exact ⟨rfl, rfl⟩
end Go.Proofs.YtogefmkplkddoaaDoor
