/- Steps and their code: the program's and the reference's. -/
import Derived.Test.YtogefmkplkddoaaDoorStpP
import Derived.Test.YtogefmkplkddoaaDoorBts
import Derived.Test.YtogefmkplkddoaaDoorHQ
import Derived.Test.YtogefmkplkddoaaDoorShelf
import Derived.Deep.CutRange
import Derived.Shelf.Strings.SlTrimAscii
import Derived.Deep.DeepCutAuto
namespace Go.Proofs.YtogefmkplkddoaaDoor
open Go.RowKit

theorem wy_is (b : UInt8) (l : UInt8) (k : Int) (h : (b = l) ↔ wy b = k) : ((b.toNat : Int) == (l.toNat : Int)) = decide (wy b = k) := by
  by_cases e : wy b = k
  · rw [h.2 e]; simp [← h.2 e, e]
  · have : b ≠ l := fun q => e (h.1 q)
    have h2 : b.toNat ≠ l.toNat := fun q => this (UInt8.toNat_inj.1 q)
    rw [decide_eq_false e]
    simp; omega
theorem wy_tests (b : UInt8) : (((b.toNat : Int) == 114) = decide (wy b = 0)) ∧ (((b.toNat : Int) == 100) = decide (wy b = 1)) ∧ (((b.toNat : Int) == 108) = decide (wy b = 2)) ∧ (((b.toNat : Int) == 117) = decide (wy b = 3)) := by
  refine ⟨wy_is b 114 0 ?_, wy_is b 100 1 ?_, wy_is b 108 2 ?_, wy_is b 117 3 ?_⟩ <;>
  · rw [wy_eq]
    by_cases h0 : b = 114
    · subst h0; decide
    by_cases h1 : b = 100
    · subst h1; decide
    by_cases h2 : b = 108
    · subst h2; decide
    by_cases h3 : b = 117
    · subst h3; decide
    simp [h0, h1, h2, h3]
set_option maxHeartbeats 1000000 in
theorem wayS_any (b : UInt8) (w : World) : Calls Tryd.prog 70 #[.int .u8 ((b.toNat : Nat) : Int)] w fun e w' => e = .returned (.int .i64 (wy b)) ∧ w = w' := by
  obtain ⟨t0, t1, t2, t3⟩ := wy_tests b
  have bd := wy_bd b
  generalize wy b = κ at *
  generalize ((b.toNat : Nat) : Int) = β at *
  go_enter Tryd.func70, Tryd.ntmps70
  go_wp2_with fail
  go_loop [3] (fun v => ∃ k : Nat, k ≤ 4 ∧ v = .int .i64 k ∧ (κ = -1 ∨ (k : Int) ≤ κ)) (fun v => 4 - (intOf v).toNat)
  case atStart => exact ⟨0, by omega, rfl, by omega⟩
  case round =>
    obtain ⟨k, hk, rfl, hkκ⟩ := hrel
    by_cases h4 : k = 4
    · subst h4
      have e : κ = -1 := by omega
      clear t0 t1 t2 t3
      subst e
      go_wp2_with fail
      go_ret
      exact ⟨rfl, rfl⟩
    · have hc : k = 0 ∨ k = 1 ∨ k = 2 ∨ k = 3 := by omega
      by_cases e : κ = k
      · rcases hc with rfl | rfl | rfl | rfl
        · have q : (β == (((ByteArray.mk #[114, 100, 108, 117])[0]'(by decide)).toNat : Int)) = true := by
            show (β == 114) = true
            rw [t0]; simpa using e
          clear t0 t1 t2 t3
          subst e
          go_wp2_with fail
          go_ret
          exact ⟨rfl, rfl⟩
        · have q : (β == (((ByteArray.mk #[114, 100, 108, 117])[1]'(by decide)).toNat : Int)) = true := by
            show (β == 100) = true
            rw [t1]; simpa using e
          clear t0 t1 t2 t3
          subst e
          go_wp2_with fail
          go_ret
          exact ⟨rfl, rfl⟩
        · have q : (β == (((ByteArray.mk #[114, 100, 108, 117])[2]'(by decide)).toNat : Int)) = true := by
            show (β == 108) = true
            rw [t2]; simpa using e
          clear t0 t1 t2 t3
          subst e
          go_wp2_with fail
          go_ret
          exact ⟨rfl, rfl⟩
        · have q : (β == (((ByteArray.mk #[114, 100, 108, 117])[3]'(by decide)).toNat : Int)) = true := by
            show (β == 117) = true
            rw [t3]; simpa using e
          clear t0 t1 t2 t3
          subst e
          go_wp2_with fail
          go_ret
          exact ⟨rfl, rfl⟩
      · rcases hc with rfl | rfl | rfl | rfl
        · have q : (β == (((ByteArray.mk #[114, 100, 108, 117])[0]'(by decide)).toNat : Int)) = false := by
            show (β == 114) = false
            rw [t0]; simpa using e
          clear t0 t1 t2 t3
          go_wp2_with fail
          go_round
          case rel => exact ⟨1, by omega, by go_num, by omega⟩
          case measure => simp [intOf]
        · have q : (β == (((ByteArray.mk #[114, 100, 108, 117])[1]'(by decide)).toNat : Int)) = false := by
            show (β == 100) = false
            rw [t1]; simpa using e
          clear t0 t1 t2 t3
          go_wp2_with fail
          go_round
          case rel => exact ⟨2, by omega, by go_num, by omega⟩
          case measure => simp [intOf]
        · have q : (β == (((ByteArray.mk #[114, 100, 108, 117])[2]'(by decide)).toNat : Int)) = false := by
            show (β == 108) = false
            rw [t2]; simpa using e
          clear t0 t1 t2 t3
          go_wp2_with fail
          go_round
          case rel => exact ⟨3, by omega, by go_num, by omega⟩
          case measure => simp [intOf]
        · have q : (β == (((ByteArray.mk #[114, 100, 108, 117])[3]'(by decide)).toNat : Int)) = false := by
            show (β == 117) = false
            rw [t3]; simpa using e
          clear t0 t1 t2 t3
          go_wp2_with fail
          go_round
          case rel => exact ⟨4, by omega, by go_num, by omega⟩
          case measure => simp [intOf]
set_option maxHeartbeats 400000 in
theorem stepOf_any (b : UInt8) (w : World) : Calls Tryd.prog 71 #[.int .u8 ((b.toNat : Nat) : Int)] w fun e w' => e = .returned (.int .i64 (wy b)) ∧ w = w' := by
  have IB := Lib.hid (fun V => (Tryd.strings_IndexByte ⟨#[114, 100, 108, 117]⟩ (((b.toNat : Nat) : Int)) V).mono (fun e w' hh => (show e = .returned (.int .i64 (wy b)) ∧ V = w' from by
    rw [hh.1]
    refine ⟨?_, hh.2.symm⟩
    simp [wy])))
  go_enter Tryd.func71, Tryd.ntmps71
  go_wp2_with fail
  refine (IB.out _).mono ?_
  rintro e w' ⟨rfl, rfl⟩
  go_wp2_with fail
  go_ret
  exact ⟨rfl, rfl⟩
theorem own_someB {w : World} {base : Nat} {e : TypeId} {size : Nat} {v : Value} {n : Nat} {xs : List Value} (h : w.ownsRow base e size v n xs) (hv : v ≠ .slice none 0 0) : ∃ g cap, v = .slice (some ⟨g, 0, none⟩) n cap := by
  rcases h.2 with ⟨h1, _⟩ | ⟨g, cap, cur, h1, _⟩
  · exact absurd h1 hv
  · exact ⟨g, cap, h1⟩
/-- append of a whole slice, at a plain list of operations. -/
theorem wpList_appB {T e : TypeId} {z : Value} {size bytes : Nat} (E : ElemT T e z size bytes) {w : World} {ops : Array Oper} {rest : List Oper} {o : Oper} {a : Act} {Q : Exit → Act → World → Prop} (hgd : o.guard = none) (s x : Operand)
    (ho : o.op = .call { callee := .builtin .append, args := #[s, x], argTypes := #[T, T] })
    (base : Nat) (v : Value) (n : Nat) (xs : List Value) (hs : a.eval s = v) (hown : w.ownsRow base e size v n xs)
    (g m c : Nat) (news : List Value) (hx : a.eval x = .slice (some ⟨g, 0, none⟩) m c) (hl : news.length = m * size) (hnews : ∀ j u, news[j]? = some u → w.cell? ((⟨g, 0, none⟩ : Addr).add j) = some u) (h1 : ∀ u ∈ news, u.oneCell' = true)
    (hn : n + m ≤ 1000000000) (hbase : base ≤ w.heap.size) (hv : v ≠ .slice none 0 0)
    (h : ∀ g cap w', w'.ownsRow base e size (.slice (some ⟨g, 0, none⟩) (n + m) cap) (n + m) (xs ++ news) → w.grownBy w' v.ownBlock → wpList Tryd.prog ops Q rest (a.put o.dst (.slice (some ⟨g, 0, none⟩) (n + m) cap)) w') : wpList Tryd.prog ops Q (o :: rest) a w := by
  obtain ⟨i0, hi, hz0, hz1, hz2⟩ := info_parts E.info
  have hsm := E.small
  refine wpList_append_own w hgd s x T ho base e i0 z size bytes E.under hi hz0 hz1 hz2 E.cells E.pos v n xs hs hown ⟨g, 0, none⟩ m c news hx hl hnews h1 (by unfold maxLen; omega) ?_ hbase ?_
  · have : (n + m) * bytes ≤ 1000000001 * 64 := Nat.mul_le_mul (by omega) hsm
    omega
  · intro v' w' hown' hg hnil
    obtain ⟨g', c', rfl⟩ := own_someB hown' (fun e => hv (hnil.1 e).1)
    exact h g' c' w' hown' hg

theorem own_u8 {w : World} {base base' g n cap : Nat} {xs : List Value} (h : w.ownsRow base 5 1 (.slice (some ⟨g, 0, none⟩) n cap) n xs) (hb : base' ≤ base) {ys : List Value} {m : Nat} (hx : xs = ys) (hn : n = m) : w.ownsRow base' 5 1 (.slice (some ⟨g, 0, none⟩) m cap) m ys := by
  subst hx hn; exact own_base h hb
theorem pkF_u8 {b : UInt8} {κ : Nat} (h : wy b = κ) (hκ : κ ≤ 3) : u8s (pkF b) = [.int .u8 (48 + (κ : Int) / 2), .int .u8 (48 + (κ : Int) % 2)] := by
  have e : (wy b).toNat = κ := by omega
  simp only [u8s, pkF, e, List.map_cons, List.map_nil]
  have : κ = 0 ∨ κ = 1 ∨ κ = 2 ∨ κ = 3 := by omega
  rcases this with rfl | rfl | rfl | rfl <;> rfl
theorem Calls.lift {f : FuncId} {args : Array Value} {w : World} {v : Value} (h : Calls Tryd.prog f args w fun e w' => e = .returned v ∧ w = w') : Calls Tryd.prog f args w fun e w' => e = .returned v ∧ Below w.heap.size w w' :=
  h.mono fun _ _ ⟨he, hw⟩ => ⟨he, hw ▸ Ext.refl _⟩
theorem u8_two (a b : UInt8) : u8s [a, b] = [.int .u8 ((a.toNat : Nat) : Int), .int .u8 ((b.toNat : Nat) : Int)] := rfl
theorem u8s_app (a b : List UInt8) : u8s (a ++ b) = u8s a ++ u8s b := by simp [u8s]
theorem trim_any (s : ByteArray) (cs : List UInt8) (w : World) (hs : s.size ≤ 1000000) (hc : cs.length ≤ 1000) (ha : cs.all (fun b => decide (b.toNat < 128)) = true) : Calls Tryd.prog 40 #[.string s, .string ⟨cs.toArray⟩] w fun e w' => e = .returned (.string ⟨(Lib.trimS s.data.toList cs).toArray⟩) ∧ Below w.heap.size w w' :=
  Any.strings_Trim_laid Tryd.lays160 (by kernel_rfl) s ⟨cs.toArray⟩ w (by omega) (by rw [show (ByteArray.mk cs.toArray).size = cs.length from by simp [ByteArray.size]]; omega) (ascii_of_all ha)
set_option maxRecDepth 100000 in
set_option maxHeartbeats 500000 in
theorem packSteps_any (s : ByteArray) (w : World) : Calls Tryd.prog 39 #[.string s] w fun e w' => e = .returned (.tuple #[.string (pkV s), .bool (pkB s)]) ∧ Below w.heap.size w w' := by
  have hlen : s.data.toList.length = s.size := rfl
  have I := Lib.hid (fun V => in_any (s.size : Int) 1 600 V)
  cases h1 : inB (s.size : Int) 1 600
  · have F := Lib.hid (pk_no (s := s) (by rw [pkR, stpOk, hlen, h1]; rfl))
    rw [F.out.1, F.out.2]
    rw [h1] at I
    go_enter Tryd.func39, Tryd.ntmps39
    go_wp2_with fail
    refine (I.out _).mono ?_
    rintro e w' ⟨rfl, rfl⟩
    go_wp2_with fail
    go_ret2
    exact ⟨rfl, Ext.refl _⟩
  rw [h1] at I
  obtain ⟨n0, n1⟩ := inB_iff.1 h1
  have TR := Lib.hid (fun V => trim_any s [114, 100, 108, 117] V (by omega) (by decide) (by decide))
  have TL : Hid (Lib.trimS s.data.toList [114, 100, 108, 117] = [] ↔ ∀ b ∈ s.data.toList, 0 ≤ wy b) := by
    rw [Hid, trimS_nil]
    exact ⟨fun h b hb => (wy_in b).2 (h b hb), fun h b hb => (wy_in b).1 (h b hb)⟩
  generalize Lib.trimS s.data.toList [114, 100, 108, 117] = tb at *
  have TE : (ByteArray.mk tb.toArray).toList.isEmpty = tb.isEmpty := by rw [ByteArray.toList_eq]
  generalize ByteArray.mk tb.toArray = ts at TR TE
  by_cases hall : ∀ b ∈ s.data.toList, 0 ≤ wy b
  case neg =>
    have F := Lib.hid (pk_no (s := s) (by
      rw [pkR, if_neg]
      rw [stpOk, Bool.and_eq_true, List.all_eq_true]
      exact fun h => hall (fun b hb => by simpa using h.2 b hb)))
    have htb : tb ≠ [] := fun e => hall (TL.out.1 e)
    have NE : ts.toList.isEmpty = false := by rw [TE]; cases tb with | nil => exact absurd rfl htb | cons => rfl
    rw [F.out.1, F.out.2]
    clear hall htb TL h1 TE
    go_enter Tryd.func39, Tryd.ntmps39
    go_wp2_with fail
    refine (I.out _).mono ?_
    rintro e w' ⟨rfl, rfl⟩
    go_wp2_with fail
    refine (TR.out _).mono ?_
    rintro e w' ⟨rfl, hb⟩
    go_wp2_with fail
    go_ret2
    exact ⟨rfl, hb⟩
  have htb : tb = [] := TL.out.2 hall
  rw [htb] at TE
  have NE : ts.toList.isEmpty = true := TE
  have OK : Hid (pkR s.data.toList = pkTo s.data.toList s.size) := by
    rw [Hid, pkR, if_pos, hlen]
    rw [stpOk, Bool.and_eq_true, List.all_eq_true, hlen]
    exact ⟨h1, fun b hb => by simpa using hall b hb⟩
  obtain ⟨n, hn⟩ : ∃ n, s.size = n := ⟨_, rfl⟩
  have WB : Hid (∀ (k : Nat) (h : k < s.size), 0 ≤ wy (s[k]'h) ∧ wy (s[k]'h) ≤ 3) := fun k h => by
    have h2 := hall (s[k]'h) (by rw [← byte_at s k h, List.getD_eq_getElem?_getD, List.getElem?_eq_getElem (by simpa using h)]; exact List.getElem_mem _)
    have := wy_bd (s[k]'h)
    omega
  have GD : Hid (∀ (k : Nat) (h : k < s.size), s.data.toList.getD k 0 = s[k]'h) := fun k h => byte_at s k h
  have SO := Lib.hid (fun (b : UInt8) V => stepOf_any b V)
  have HN := Lib.hid hn
  have z0 : 0 < s.size := by omega
  have f0 := WB.out 0 z0
  have fe := GD.out 0 z0
  have P1 : Hid (pkTo s.data.toList 1 = some (pkF s[0])) := by rw [Hid, pkTo, if_pos rfl, fe]
  obtain ⟨κ, hκ⟩ := Int.eq_ofNat_of_zero_le f0.1
  have PU := Lib.hid (pkF_u8 hκ (by omega))
  have S0 := Lib.hid (SO.out s[0])
  rw [hκ] at S0 f0
  have i00 : (0 : Int) < (s.size : Int) := by omega
  have k3 : κ ≤ 3 := by omega
  clear hall TL h1 fe hκ hlen TE htb hn
  go_enter Tryd.func39, Tryd.ntmps39
  go_wp2_with fail
  refine (I.out _).mono ?_
  rintro e w' ⟨rfl, rfl⟩
  go_wp2_with fail
  refine (TR.out _).mono ?_
  rintro e w1 ⟨rfl, hb1⟩
  go_wp2_with fail
  refine (S0.out _).mono ?_
  rintro e w' ⟨rfl, rfl⟩
  obtain ⟨w2, hw2⟩ : ∃ w2, w1.alloc (.cells #[.int .u8 (48 + (κ : Int) / 2), .int .u8 (48 + (κ : Int) % 2)] 5) = w2 := ⟨_, rfl⟩
  have O2 : w2.ownsRow w1.heap.size 5 1 (.slice (some ⟨w1.heap.size, 0, none⟩) 2 2) 2 (u8s (pkF s[0])) := by
    rw [PU.out, ← hw2]; exact World.ownsRow_lit (e := 5) (size := 1) w1 #[.int .u8 (48 + (κ : Int) / 2), .int .u8 (48 + (κ : Int) % 2)] 2 (Nat.le_refl _) (by decide) rfl
  have B2 : Below w.heap.size w w2 := Ext.then_ hb1 (by rw [← hw2]; exact Ext.more (Ext.refl _) _)
  have HW2 := Lib.hid hw2
  have HO2 := Lib.hid O2
  have hz := hb1.size
  have PL : Hid ((pkF s[0]).length = 2) := rfl
  clear hw2 O2 hb1 f0
  go_wp2_with fail
  try simp only [HW2.out]
  go_loopw [5, 6, 46, 51, 56] (fun v i _ _ _ wr => ∃ (k g c : Nat) (o : List UInt8), 1 ≤ k ∧ k ≤ s.size ∧ i = .int .i64 k ∧ v = .slice (some ⟨g, 0, none⟩) o.length c ∧ Hid (pkTo s.data.toList k = some o) ∧ wr.ownsRow w1.heap.size 5 1 (.slice (some ⟨g, 0, none⟩) o.length c) o.length (u8s o) ∧ Below w.heap.size w wr) (fun _ i _ _ _ _ => s.size - (intOf i).toNat)
  case atStart => exact ⟨1, _, _, pkF s[0], Nat.le_refl _, by omega, rfl, by rw [PL.out], P1, by rw [PL.out]; exact HO2.out, B2⟩
  case round =>
    obtain ⟨k, g, c, o, hk1, hk, rfl, rfl, hP, hown, hb⟩ := hrel
    clear B2
    by_cases hlt : k < s.size
    · obtain ⟨j, hj⟩ : ∃ j, j + 1 = k := ⟨k - 1, by omega⟩
      have hjl : j < s.size := by omega
      obtain ⟨b0, b1⟩ := WB.out k hlt
      obtain ⟨a0, a1⟩ := WB.out j hjl
      have PN : Hid (pkTo s.data.toList (k + 1) = match pkS (wy (s[j]'hjl)) (wy (s[k]'hlt)) with | some d => some (o ++ d) | none => none) := by
        rw [Hid, pkTo, if_neg (by omega), hP.out, GD.out k hlt, show k - 1 = j from by omega, GD.out j hjl]
        cases pkS (wy (s[j]'hjl)) (wy (s[k]'hlt)) <;> rfl
      have K1 := Lib.hid (SO.out (s[k]'hlt))
      have K2 := Lib.hid (SO.out (s[j]'hjl))
      have ol := (pkTo_len _ _ hP.out).1
      have PNO := Lib.hid (fun (h : pkTo s.data.toList (k + 1) = none) => pkTo_none h (s.size - (k + 1)))
      generalize wy (s[k]'hlt) = β at *
      generalize wy (s[j]'hjl) = α at *
      have i0 : (0 : Int) ≤ (k : Int) := by omega
      have i1 : (k : Int) < (s.size : Int) := by omega
      have i2 : (0 : Int) ≤ (j : Int) := by omega
      have i3 : (j : Int) < (s.size : Int) := by omega
      have e1 : IntKind.i64.wrap ((k : Int) - 1) = (j : Int) := by rw [IntWalk.i64_in _ (by omega)]; omega
      have e2 : IntKind.i64.wrap (β - α) = β - α := IntWalk.i64_in _ (by omega)
      have e3 : IntKind.i64.wrap (β - α + 4) = β - α + 4 := IntWalk.i64_in _ (by omega)
      have e4 : (β - α + 4).tmod 4 = (β - α + 4) % 4 := by rw [Int.tmod_eq_emod_of_nonneg (by omega)]
      have hr : (β - α + 4) % 4 = 0 ∨ (β - α + 4) % 4 = 1 ∨ (β - α + 4) % 4 = 2 ∨ (β - α + 4) % 4 = 3 := by omega
      have PS : Hid (pkS α β = if (β - α + 4) % 4 = 0 then some [48] else if (β - α + 4) % 4 = 1 then some [49, 48] else if (β - α + 4) % 4 = 3 then some [49, 49] else none) := rfl
      generalize (β - α + 4) % 4 = r at *
      have HX := Lib.hid (And.intro hown hb)
      clear hown hb
      rcases hr with rfl | rfl | rfl | rfl
      · have R : Hid (pkTo s.data.toList (k + 1) = some (o ++ [48])) := by rw [Hid, PN.out, PS.out]; rfl
        clear PN PS PNO
        go_wp2_with fail
        refine wp_region_held_quiet (fun U => Below wr.heap.size wr U) (by kernel_rfl) (by kernel_rfl) (Ext.refl _).drew ?_
        have ne : Nonempty (HeldW (fun U => Below wr.heap.size wr U)) := ⟨⟨wr, Ext.refl _⟩⟩
        repeat (go_big_quiet_step ((go_at_call 71; exact Calls.above_of _ (by first | exact Calls.lift (K1.out _) | exact Calls.lift (K2.out _)))))
        refine wpQuiet_nil ?_
        intro w4 hw'
        obtain ⟨⟨_, hb4⟩, rfl⟩ := hw'
        clear ne 
        have O4 := Lib.hid (own_ext hb4 HX.out.1)
        have B4 := Ext.then_ HX.out.2 hb4
        have z4 := B4.size
        have y4 := HX.out.1.lt g rfl
        have x4 := hb4.size
        clear HX hb4 K1 K2
        go_wp2_with (at_builtin; refine wpList_appB byteT (by rfl) _ _ (by rfl) w1.heap.size (.slice (some ⟨g, 0, none⟩) o.length c) o.length (u8s o) (by rfl) (O4.out.alloc _) w4.heap.size 1 1 [.int .u8 48] (by rfl) rfl (World.news_of_block (heap_alloc_new _ _)) (by simp [Value.oneCell']) (by omega) (by simp; omega) (by intro h; cases h) ?_; intro g5 c5 w5 own5 hg5)
        have B5 : Below w.heap.size w w5 := (Ext.more B4 _).grown hg5 (by simp; omega) (fun z hz => by simp [Value.ownBlock] at hz; omega)
        have HO := Lib.hid (own_u8 own5 (Nat.le_refl _) (ys := u8s (o ++ [48])) (m := (o ++ [(48 : UInt8)]).length) (by rw [u8s_app]; rfl) (by simp))
        have HL : Hid ((o ++ [(48 : UInt8)]).length = o.length + 1) := by simp [Hid]
        clear own5 hg5
        go_wp2_with fail
        go_roundw
        case rel => exact ⟨k + 1, g5, c5, o ++ [48], by omega, by omega, by go_num, by rw [HL.out], R, HO.out, B5⟩
        case measure => simp [intOf]; omega
      · have R : Hid (pkTo s.data.toList (k + 1) = some (o ++ [49, 48])) := by rw [Hid, PN.out, PS.out]; rfl
        clear PN PS PNO
        go_wp2_with fail
        refine wp_region_held_quiet (fun U => Below wr.heap.size wr U) (by kernel_rfl) (by kernel_rfl) (Ext.refl _).drew ?_
        have ne : Nonempty (HeldW (fun U => Below wr.heap.size wr U)) := ⟨⟨wr, Ext.refl _⟩⟩
        repeat (go_big_quiet_step ((go_at_call 71; exact Calls.above_of _ (by first | exact Calls.lift (K1.out _) | exact Calls.lift (K2.out _)))))
        refine wpQuiet_nil ?_
        intro w4 hw'
        obtain ⟨⟨_, hb4⟩, rfl⟩ := hw'
        clear ne 
        have O4 := Lib.hid (own_ext hb4 HX.out.1)
        have B4 := Ext.then_ HX.out.2 hb4
        have z4 := B4.size
        have y4 := HX.out.1.lt g rfl
        have x4 := hb4.size
        clear HX hb4 K1 K2
        go_wp2_with (at_builtin; refine wpList_appB byteT (by rfl) _ _ (by rfl) w1.heap.size (.slice (some ⟨g, 0, none⟩) o.length c) o.length (u8s o) (by rfl) (O4.out.alloc _) w4.heap.size 2 2 [.int .u8 49, .int .u8 48] (by rfl) rfl (World.news_of_block (heap_alloc_new _ _)) (by simp [Value.oneCell']) (by omega) (by simp; omega) (by intro h; cases h) ?_; intro g5 c5 w5 own5 hg5)
        have B5 : Below w.heap.size w w5 := (Ext.more B4 _).grown hg5 (by simp; omega) (fun z hz => by simp [Value.ownBlock] at hz; omega)
        have HO := Lib.hid (own_u8 own5 (Nat.le_refl _) (ys := u8s (o ++ [49, 48])) (m := (o ++ [(49 : UInt8), 48]).length) (by rw [u8s_app]; rfl) (by simp))
        have HL : Hid ((o ++ [(49 : UInt8), 48]).length = o.length + 2) := by simp [Hid]
        clear own5 hg5
        go_wp2_with fail
        go_roundw
        case rel => exact ⟨k + 1, g5, c5, o ++ [49, 48], by omega, by omega, by go_num, by rw [HL.out], R, HO.out, B5⟩
        case measure => simp [intOf]; omega
      · have R := PNO.out (by rw [PN.out, PS.out]; rfl)
        have F := Lib.hid (pk_no (s := s) (by rw [OK.out, show s.size = k + 1 + (s.size - (k + 1)) from by omega]; exact R))
        clear PN PS PNO R
        go_wp2_with fail
        refine wp_region_held_quiet (fun U => Below wr.heap.size wr U) (by kernel_rfl) (by kernel_rfl) (Ext.refl _).drew ?_
        have ne : Nonempty (HeldW (fun U => Below wr.heap.size wr U)) := ⟨⟨wr, Ext.refl _⟩⟩
        repeat (go_big_quiet_step ((go_at_call 71; exact Calls.above_of _ (by first | exact Calls.lift (K1.out _) | exact Calls.lift (K2.out _)))))
        refine wpQuiet_nil ?_
        intro w4 hw'
        obtain ⟨⟨_, hb4⟩, rfl⟩ := hw'
        clear ne 
        have B4 := Ext.then_ HX.out.2 hb4
        go_wp2_with fail
        go_ret2
        exact ⟨ret_pk F.out, B4⟩
      · have R : Hid (pkTo s.data.toList (k + 1) = some (o ++ [49, 49])) := by rw [Hid, PN.out, PS.out]; rfl
        clear PN PS PNO
        go_wp2_with fail
        refine wp_region_held_quiet (fun U => Below wr.heap.size wr U) (by kernel_rfl) (by kernel_rfl) (Ext.refl _).drew ?_
        have ne : Nonempty (HeldW (fun U => Below wr.heap.size wr U)) := ⟨⟨wr, Ext.refl _⟩⟩
        repeat (go_big_quiet_step ((go_at_call 71; exact Calls.above_of _ (by first | exact Calls.lift (K1.out _) | exact Calls.lift (K2.out _)))))
        refine wpQuiet_nil ?_
        intro w4 hw'
        obtain ⟨⟨_, hb4⟩, rfl⟩ := hw'
        clear ne 
        have O4 := Lib.hid (own_ext hb4 HX.out.1)
        have B4 := Ext.then_ HX.out.2 hb4
        have z4 := B4.size
        have y4 := HX.out.1.lt g rfl
        have x4 := hb4.size
        clear HX hb4 K1 K2
        go_wp2_with (at_builtin; refine wpList_appB byteT (by rfl) _ _ (by rfl) w1.heap.size (.slice (some ⟨g, 0, none⟩) o.length c) o.length (u8s o) (by rfl) (O4.out.alloc _) w4.heap.size 2 2 [.int .u8 49, .int .u8 49] (by rfl) rfl (World.news_of_block (heap_alloc_new _ _)) (by simp [Value.oneCell']) (by omega) (by simp; omega) (by intro h; cases h) ?_; intro g5 c5 w5 own5 hg5)
        have B5 : Below w.heap.size w w5 := (Ext.more B4 _).grown hg5 (by simp; omega) (fun z hz => by simp [Value.ownBlock] at hz; omega)
        have HO := Lib.hid (own_u8 own5 (Nat.le_refl _) (ys := u8s (o ++ [49, 49])) (m := (o ++ [(49 : UInt8), 49]).length) (by rw [u8s_app]; rfl) (by simp))
        have HL : Hid ((o ++ [(49 : UInt8), 49]).length = o.length + 2) := by simp [Hid]
        clear own5 hg5
        go_wp2_with fail
        go_roundw
        case rel => exact ⟨k + 1, g5, c5, o ++ [49, 49], by omega, by omega, by go_num, by rw [HL.out], R, HO.out, B5⟩
        case measure => simp [intOf]; omega
    · obtain rfl : k = s.size := by omega
      have F := Lib.hid (pk_yes (s := s) (by rw [OK.out]; exact hP.out))
      have CV := str_of_own hown rfl
      clear hown
      go_wp2_with fail
      go_ret2
      exact ⟨ret_pk F.out, hb⟩
set_option maxRecDepth 100000 in
set_option maxHeartbeats 1000000 in
theorem stepsS_any (s : ByteArray) (w : World) : Calls Tryd.prog 38 #[.string s] w fun e w' => e = .returned (.tuple #[.string (pkV s), .bool (pkB s)]) ∧ Below w.heap.size w w' := by
  have hlen : s.data.toList.length = s.size := rfl
  cases h1 : inB (s.size : Int) 1 600
  · have F := Lib.hid (pk_no (s := s) (by rw [pkR, stpOk, hlen, h1]; rfl))
    have h2 := inB_not.1 h1
    by_cases h3 : (s.size : Int) < 1
    · clear h2 h1 hlen
      go_enter Tryd.func38, Tryd.ntmps38
      go_wp2_with fail
      go_ret2
      exact ⟨ret_pk F.out, Ext.refl _⟩
    · have h4 : (600 : Int) < (s.size : Int) := by omega
      clear h2 h1 hlen
      go_enter Tryd.func38, Tryd.ntmps38
      go_wp2_with fail
      go_ret2
      exact ⟨ret_pk F.out, Ext.refl _⟩
  obtain ⟨n0, n1⟩ := inB_iff.1 h1
  have t1 : ¬ (s.size : Int) < 1 := by omega
  have t2 : ¬ (600 : Int) < (s.size : Int) := by omega
  have GD : Hid (∀ (k : Nat) (h : k < s.size), s.data.toList.getD k 0 = s[k]'h) := fun k h => byte_at s k h
  have SO := Lib.hid (fun (b : UInt8) V => wayS_any b V)
  have BAD : Hid (∀ (k : Nat) (h : k < s.size), wy (s[k]'h) < 0 → pkR s.data.toList = none) := fun k h hw => by
    rw [pkR, if_neg]
    rw [stpOk, Bool.and_eq_true, List.all_eq_true]
    intro hh
    have := hh.2 (s[k]'h) (by rw [← byte_at s k h, List.getD_eq_getElem?_getD, List.getElem?_eq_getElem (by simpa using h)]; exact List.getElem_mem _)
    simp at this
    omega
  have OK : Hid ((∀ (k : Nat) (h : k < s.size), 0 ≤ wy (s[k]'h)) → pkR s.data.toList = pkTo s.data.toList s.size) := fun hall => by
    rw [pkR, if_pos, hlen]
    rw [stpOk, Bool.and_eq_true, List.all_eq_true, hlen]
    refine ⟨h1, fun b hb => ?_⟩
    obtain ⟨k, hk, rfl⟩ := List.getElem_of_mem hb
    have := hall k hk
    simp only [decide_eq_true_eq]
    exact this
  have PNX : Hid (∀ (k : Nat), k < s.size → pkTo s.data.toList (k + 1) = none → (∀ (j : Nat) (h : j < s.size), 0 ≤ wy (s[j]'h)) ∨ pkR s.data.toList = none) := fun k _ _ => by
    by_cases hall : ∀ (j : Nat) (h : j < s.size), 0 ≤ wy (s[j]'h)
    · exact .inl hall
    · right
      simp only [Classical.not_forall] at hall
      obtain ⟨j, hj, hw⟩ := hall
      exact BAD.out j hj (by omega)
  clear h1 hlen
  go_enter Tryd.func38, Tryd.ntmps38
  go_wp2_with fail
  go_loopw [4, 5, 6, 50, 54, 58] (fun v i _ _ _ _ wr => ∃ (k : Nat) (o : List UInt8), k ≤ s.size ∧ i = .int .i64 k ∧ v = .string ⟨o.toArray⟩ ∧ Hid (pkTo s.data.toList k = some o) ∧ Hid (∀ (j : Nat) (h : j < s.size), j < k → 0 ≤ wy (s[j]'h)) ∧ Below w.heap.size w wr) (fun _ i _ _ _ _ _ => s.size - (intOf i).toNat)
  case atStart => exact ⟨0, [], Nat.zero_le _, rfl, rfl, rfl, (fun j h hj => absurd hj (Nat.not_lt_zero _)), Ext.refl _⟩
  case round =>
    obtain ⟨k, o, hk, rfl, rfl, hP, hW, hb⟩ := hrel
    have ol := (pkTo_len _ _ hP.out).1
    by_cases hlt : k < s.size
    · have K1 := Lib.hid (SO.out (s[k]'hlt))
      have i0 : (0 : Int) ≤ (k : Int) := by omega
      have i1 : (k : Int) < (s.size : Int) := by omega
      have bd := wy_bd (s[k]'hlt)
      by_cases hneg : wy (s[k]'hlt) < 0
      · have F := Lib.hid (pk_no (s := s) (BAD.out k hlt hneg))
        clear bd
        generalize wy (s[k]'hlt) = β at *
        go_wp2_with fail
        refine (K1.out _).mono ?_
        rintro e w' ⟨rfl, rfl⟩
        go_wp2_with fail
        go_ret2
        exact ⟨ret_pk F.out, hb⟩
      have W2 : Hid (∀ (j : Nat) (h : j < s.size), j < k + 1 → 0 ≤ wy (s[j]'h)) := fun j h hj => by
        rcases Nat.lt_succ_iff_lt_or_eq.1 hj with h2 | h2
        · exact hW.out j h h2
        · subst h2; omega
      by_cases hk0 : k = 0
      · subst hk0
        obtain rfl : o = [] := by have := hP.out; cases this; rfl
        obtain ⟨κ, hκ⟩ := Int.eq_ofNat_of_zero_le (show 0 ≤ wy (s[0]'hlt) by omega)
        have R : Hid (pkTo s.data.toList (0 + 1) = some (pkF (s[0]'hlt))) := by rw [Hid, pkTo, if_pos rfl, GD.out 0 hlt]
        have PU := pkF_u8 hκ (by omega)
        have F : Hid (ByteArray.mk ([] : List UInt8).toArray ++ ByteArray.mk (pkF (s[0]'hlt)).toArray = ⟨(pkF (s[0]'hlt)).toArray⟩) := bytes_app [] _
        have CV : ∀ V : World, (convert 30 9 (.slice (some ⟨V.heap.size, 0, none⟩) 2 2)).run Tryd.prog (V.alloc (.cells #[.int .u8 (48 + (κ : Int) / 2), .int .u8 (48 + (κ : Int) % 2)] 5)) = .ok (.string ⟨(pkF (s[0]'hlt)).toArray⟩) (V.alloc (.cells #[.int .u8 (48 + (κ : Int) / 2), .int .u8 (48 + (κ : Int) % 2)] 5)) := fun V =>
          str_of_own (l := pkF (s[0]'hlt)) (base := V.heap.size) (by rw [PU]; exact World.ownsRow_lit (e := 5) (size := 1) V #[.int .u8 (48 + (κ : Int) / 2), .int .u8 (48 + (κ : Int) % 2)] 2 (Nat.le_refl _) (by decide) rfl) rfl
        have k3 : κ ≤ 3 := by omega
        have hsz : (ByteArray.mk (pkF (s[0]'hlt)).toArray).size = 2 := rfl
        rw [hκ] at K1
        generalize pkF (s[0]'hlt) = pf at *
        generalize hpv : ByteArray.mk pf.toArray = pv at *
        have HPV := Lib.hid hpv
        clear bd hneg PU hκ hpv
        have t3 : ¬ 9223372036854775807 < 0 + pv.size := by omega
        go_wp2_with fail
        refine (K1.out _).mono ?_
        rintro e w' ⟨rfl, rfl⟩
        go_wp2_with fail
        go_roundw
        case rel => exact ⟨1, pf, by omega, by go_num, by rw [F.out, HPV.out], R, W2, Ext.more hb _⟩
        case measure => simp [intOf]; omega
      · obtain ⟨j, hj⟩ : ∃ j, j + 1 = k := ⟨k - 1, by omega⟩
        have hjl : j < s.size := by omega
        have a0 := hW.out j hjl (by omega)
        have bda := wy_bd (s[j]'hjl)
        have K2 := Lib.hid (SO.out (s[j]'hjl))
        have PN : Hid (pkTo s.data.toList (k + 1) = match pkS (wy (s[j]'hjl)) (wy (s[k]'hlt)) with | some d => some (o ++ d) | none => none) := by
          rw [Hid, pkTo, if_neg hk0, hP.out, GD.out k hlt, show k - 1 = j from by omega, GD.out j hjl]
          cases pkS (wy (s[j]'hjl)) (wy (s[k]'hlt)) <;> rfl
        have PNO : Hid (pkTo s.data.toList (k + 1) = none → pkR s.data.toList = none) := fun h => by
          rcases PNX.out k hlt h with h2 | h2
          · rw [OK.out h2, show s.size = k + 1 + (s.size - (k + 1)) from by omega]; exact pkTo_none h _
          · exact h2
        generalize wy (s[k]'hlt) = β at *
        generalize wy (s[j]'hjl) = α at *
        have i2 : (0 : Int) ≤ (j : Int) := by omega
        have i3 : (j : Int) < (s.size : Int) := by omega
        have e1 : IntKind.i64.wrap ((k : Int) - 1) = (j : Int) := by rw [IntWalk.i64_in _ (by omega)]; omega
        have e1' : (k : Int) - 1 = (j : Int) := by omega
        have hr : (β - α + 4) % 4 = 0 ∨ (β - α + 4) % 4 = 1 ∨ (β - α + 4) % 4 = 2 ∨ (β - α + 4) % 4 = 3 := by omega
        have PS : Hid (pkS α β = if (β - α + 4) % 4 = 0 then some [48] else if (β - α + 4) % 4 = 1 then some [49, 48] else if (β - α + 4) % 4 = 3 then some [49, 49] else none) := rfl
        have b0 : 0 ≤ β := by omega
        have w1 : wrap64 (β - α) = β - α := IntWalk.wrap64_in _ ⟨by omega, by omega⟩
        have w2 : wrap64 (β - α + 4) = β - α + 4 := IntWalk.wrap64_in _ ⟨by omega, by omega⟩
        have w3 : (β - α + 4).tmod 4 = (β - α + 4) % 4 := by rw [Int.tmod_eq_emod_of_nonneg (by omega)]
        clear bd bda hneg
        go_wp2_with fail
        refine (K1.out _).mono ?_
        rintro e w' ⟨rfl, rfl⟩
        go_wp2_with fail
        refine (K2.out _).mono ?_
        rintro e w' ⟨rfl, rfl⟩
        rcases hr with hr | hr | hr | hr
        · have R : Hid (pkTo s.data.toList (k + 1) = some (o ++ [48])) := by rw [Hid, PN.out, PS.out, hr]; rfl
          have F : Hid (ByteArray.mk o.toArray ++ ByteArray.mk #[48] = ⟨(o ++ [48]).toArray⟩) := bytes_app o [48]
          have t3 : ¬ 9223372036854775807 < o.length + 1 := by omega
          clear PN PS PNO
          go_wp2_with fail
          go_roundw
          case rel => exact ⟨k + 1, o ++ [48], by omega, by go_num, by rw [F.out], R, W2, hb⟩
          case measure => simp [intOf]; omega
        · have R : Hid (pkTo s.data.toList (k + 1) = some (o ++ [49, 48])) := by rw [Hid, PN.out, PS.out, hr]; rfl
          have F : Hid (ByteArray.mk o.toArray ++ ByteArray.mk #[49, 48] = ⟨(o ++ [49, 48]).toArray⟩) := bytes_app o [49, 48]
          have t3 : ¬ 9223372036854775807 < o.length + 2 := by omega
          clear PN PS PNO
          go_wp2_with fail
          go_roundw
          case rel => exact ⟨k + 1, o ++ [49, 48], by omega, by go_num, by rw [F.out], R, W2, hb⟩
          case measure => simp [intOf]; omega
        · have F := Lib.hid (pk_no (s := s) (PNO.out (by rw [PN.out, PS.out, hr]; rfl)))
          clear PN PS PNO
          go_wp2_with fail
          go_ret2
          exact ⟨ret_pk F.out, hb⟩
        · have R : Hid (pkTo s.data.toList (k + 1) = some (o ++ [49, 49])) := by rw [Hid, PN.out, PS.out, hr]; rfl
          have F : Hid (ByteArray.mk o.toArray ++ ByteArray.mk #[49, 49] = ⟨(o ++ [49, 49]).toArray⟩) := bytes_app o [49, 49]
          have t3 : ¬ 9223372036854775807 < o.length + 2 := by omega
          clear PN PS PNO
          go_wp2_with fail
          go_roundw
          case rel => exact ⟨k + 1, o ++ [49, 49], by omega, by go_num, by rw [F.out], R, W2, hb⟩
          case measure => simp [intOf]; omega
    · obtain rfl : k = s.size := by omega
      have F := Lib.hid (pk_yes (s := s) (by rw [OK.out (fun j h => hW.out j h h)]; exact hP.out))
      go_wp2_with fail
      go_ret2
      exact ⟨ret_pk F.out, hb⟩
set_option maxHeartbeats 400000 in
theorem packStepsI_any (s : ByteArray) (w : World) : Calls Tryd.prog 15 #[.string s] w fun e w' => e = .returned (.tuple #[.string (pkV s), .bool (pkB s)]) ∧ Below w.heap.size w w' := by
  have C := Lib.hid (packSteps_any s w)
  go_enter Tryd.func15, Tryd.ntmps15
  go_wp2_with fail
  refine (C.out).mono ?_
  rintro e w' ⟨rfl, hb⟩
  go_wp2_with fail
  go_ret2
  exact ⟨rfl, hb⟩
set_option maxHeartbeats 400000 in
theorem packStepsS_any (s : ByteArray) (w : World) : Calls Tryd.prog 14 #[.string s] w fun e w' => e = .returned (.tuple #[.string (pkV s), .bool (pkB s)]) ∧ Below w.heap.size w w' := by
  have C := Lib.hid (stepsS_any s w)
  have F : Hid (pkB s = false → pkV s = ⟨#[]⟩) := fun h => by
    rw [pkB] at h; rw [pkV]; cases e : pkR s.data.toList with | none => rfl | some o => rw [e] at h; cases h
  cases h : pkB s
  · rw [h] at C
    have F2 := Lib.hid (F.out h)
    rw [F2.out] at C ⊢
    go_enter Tryd.func14, Tryd.ntmps14
    go_wp2_with fail
    refine (C.out).mono ?_
    rintro e w' ⟨rfl, hb⟩
    go_wp2_with fail
    go_ret2
    exact ⟨rfl, hb⟩
  · rw [h] at C
    go_enter Tryd.func14, Tryd.ntmps14
    go_wp2_with fail
    refine (C.out).mono ?_
    rintro e w' ⟨rfl, hb⟩
    go_wp2_with fail
    go_ret2
    exact ⟨rfl, hb⟩
end Go.Proofs.YtogefmkplkddoaaDoor
