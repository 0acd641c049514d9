/- Cosine, the program's. Conditions: the tallies' own. -/
import Derived.Test.YthidjbobjjoekaaGreatCpF
import Derived.Test.YthidjbobjjoekaaGreatCpG
namespace Go.Proofs.YthidjbobjjoekaaGreat
open Go.RowKit Go.Lib Go.Sort Go.Shelf
set_option linter.unusedVariables false
set_option linter.unusedSimpArgs false
set_option maxHeartbeats 1000000
open Ieee (infR)
theorem size_le {w : World} {b n : Nat} {D : Dt} (h : w.ownsMap Tryz.prog 9 (plainElem Tryz.prog 3) b n D) : Maps.size D ≤ n := by
  obtain ⟨es, clock, hb, F, hs, hD⟩ := h
  rw [hD]
  simpa [Maps.size, length_sorted] using hs
set_option maxRecDepth 100000 in
set_option maxHeartbeats 8000000 in
theorem cos45 {w : World} {b m b' m' : Nat} {L M : List Ent} (hT : Tal w b m L) (hU : Tal w b' m' M) {W : List ByteArray} (hW : Words L M W) :
    Calls Tryz.prog 22 #[.pointer (some ⟨b, 0, none⟩), .pointer (some ⟨b', 0, none⟩)] w fun e w' => ∃ r, e = .returned (.float .f64 r) ∧ cl r = cosV L M W ∧ Below w.heap.size w w' := by
  have hL1 := hid (len_any hT)
  have hL2 := hid (len_any hU)
  unfold cosV
  rcases len_tests (n := L.length) with ⟨a1, a2, a3⟩ | ⟨a1, a2, a3⟩
  · rw [if_pos (.inl a1)]
    clear a1 hT hU hW
    generalize L.length = n at *
    go_enter Tryz.func22, Tryz.ntmps22
    go_wp2_with fail
    with_reducible refine Calls.mono hL1.out ?_
    rintro e w' ⟨rfl, rfl⟩
    go_wp2_with fail
    with_reducible refine Calls.mono (nan_any _) ?_
    rintro e w' ⟨rfl, rfl⟩
    go_wp2_with fail
    go_ret
    exact ⟨_, rfl, cl_nanV, Below.refl _ _⟩
  rcases len_tests (n := M.length) with ⟨b1, b2, b3⟩ | ⟨b1, b2, b3⟩
  · rw [if_pos (.inr b1)]
    clear a1 b1 hT hU hW
    generalize L.length = n at *
    generalize M.length = n2 at *
    go_enter Tryz.func22, Tryz.ntmps22
    go_wp2_with fail
    with_reducible refine Calls.mono hL1.out ?_
    rintro e w' ⟨rfl, rfl⟩
    go_wp2_with fail
    with_reducible refine Calls.mono hL2.out ?_
    rintro e w' ⟨rfl, rfl⟩
    go_wp2_with fail
    with_reducible refine Calls.mono (nan_any _) ?_
    rintro e w' ⟨rfl, rfl⟩
    go_wp2_with fail
    go_ret
    exact ⟨_, rfl, cl_nanV, Below.refl _ _⟩
  rw [if_neg (by rintro (h | h); exact a1 h; exact b1 h)]
  clear a1 b1
  generalize hRR : (opF .quo (cosS L M W) (opF .mul (sqrtF (cosS L L W)) (sqrtF (cosS M M W)))).map zeroV = RR at *
  have hR := hid hRR
  clear hRR
  obtain ⟨D, hm, ht⟩ := hT.hm
  obtain ⟨D', hm', ht'⟩ := hU.hm
  have c0 := hT.hb.cell (k := 0) (v := .map (some m)) rfl
  have hml' := hU.mlt
  have hcl0 := AnyW.maps_Clone_owns Tryz.cloneM 9 (plainElem (H := Unit) Tryz.prog 3) m (Maps.size D) D w hm
  change Calls Tryz.prog 42 _ _ _ at hcl0
  have hcl := hid hcl0
  have hz1 : Maps.size D ≤ 4096 := by rw [ht.size]; exact hT.he.len
  have hz2 : Maps.size D' ≤ 4096 := by rw [ht'.size]; exact hU.he.len
  have HT := hid hT
  have HU := hid hU
  have Ht := hid ht
  have Ht' := hid ht'
  have hM' := hid hm'
  have hWW := hid hW
  have hIs : Hid (Maps.IsMap D) := (hm.tidy kS).isMap
  clear hcl0 hT hU hm hm' ht ht' hW
  generalize L.length = n at *
  generalize M.length = n2 at *
  go_enter Tryz.func22, Tryz.ntmps22
  go_wp2_with fail
  with_reducible refine Calls.mono hL1.out ?_
  rintro e w' ⟨rfl, rfl⟩
  go_wp2_with fail
  with_reducible refine Calls.mono hL2.out ?_
  rintro e w' ⟨rfl, rfl⟩
  go_wp2_with fail
  clear hL1 hL2
  with_reducible refine Calls.mono hcl.out ?_
  rintro e w3 ⟨rfl, hmc, -, hb3⟩
  clear hcl
  have hB3 := hid hb3
  have hmm : w3.ownsMap Tryz.prog 9 (plainElem (H := Unit) Tryz.prog 3) m' (Maps.size D') D' := (show MapAt w m' D' from hM'.out).block (hb3.block m' hml')
  have hcp0 := AnyX.maps_Copy (ρ := Tryz.copyM_ren) Tryz.copyM kS (plainElem (H := Unit) Tryz.prog 3) w.heap.size m' (Maps.size D) (Maps.size D') D D' w3 hmc hmm (by omega) (by unfold maxLen; omega)
  change Calls Tryz.prog 43 _ _ _ at hcp0
  have hcp := hid hcp0
  have d0 := (HU.out.low hb3).hb.cell (k := 0) (v := .map (some m')) rfl
  clear hcp0 hmc hmm hb3 c0
  go_wp2_with fail
  with_reducible refine Calls.mono hcp.out ?_
  rintro e w4 ⟨rfl, hmc, -, hg4⟩
  clear hcp d0
  have hB4 : Hid (Below w.heap.size w w4) := hid (hB3.out.grown hg4 hB3.out.size (fun k hk => by cases hk; exact Nat.le_refl _))
  have hSz := size_le hmc
  have hSo := hid (sorted73 hmc (by omega))
  have hKy := hid (keys74 w4 w.heap.size)
  have hHas := hid (fun k => has_merge hIs.out (show MapAt w m' D' from hM'.out) k)
  clear hmc hSz hg4 hz1 hz2
  go_wp2_with fail
  with_reducible refine Calls.mono hKy.out ?_
  rintro e w' ⟨rfl, rfl⟩
  go_wp2_with fail
  with_reducible refine Calls.mono hSo.out ?_
  rintro e w6 ⟨v, zs, rfl, hz1, hz2, hz3, hO⟩
  obtain rfl : zs = W := by
    refine (words_of hz1 hz2 fun k => ?_).uniq hWW.out
    rw [hz3, hHas.out, Ht.out.has, Ht'.out.has]
    simp
  have hW6 := hid (show Below w.heap.size w w6 from hB4.out.trans (((Below.refl _ _).alloc (Nat.le_refl _) _ |>.trans (hO.low.mono (by simp))).mono hB4.out.size))
  obtain ⟨p3, cap3, rfl, hat3⟩ := hO.opened
  have HC := hid hat3
  have hTk : Hid (zs.take zs.length = zs) := by rw [List.take_length]; exact hid rfl
  have hSize := hid (fun k (hk : k ∈ zs) => (show k.size ≤ maxLen by
    rcases (hWW.out.mem k).1 hk with h | h
    · obtain ⟨x, hx, rfl⟩ := List.mem_map.1 h; exact HT.out.he.sz x hx
    · obtain ⟨x, hx, rfl⟩ := List.mem_map.1 h; exact HU.out.he.sz x hx))
  have hzl : zs.length ≤ maxLen := by
    rcases hO.own.2 with ⟨_, hz⟩ | ⟨g, cap, cur, hv, hbase, hb, k1, k2, k3, k4⟩
    · omega
    · omega
  unfold maxLen at hzl
  have hT6 := hid (fun q => (show Tal (w6.drewN q) b m L from (HT.out.low hW6.out).keep rfl rfl))
  have hU6 := hid (fun q => (show Tal (w6.drewN q) b' m' M from (HU.out.low hW6.out).keep rfl rfl))
  have t0 := (HT.out.low hW6.out).hb.cell (k := 0) (v := .map (some m)) rfl
  have u0 := (HU.out.low hW6.out).hb.cell (k := 0) (v := .map (some m')) rfl
  have hbL := hid (fun k => (show 0 ≤ countL L k ∧ countL L k ≤ 2147483648 by have := countL_le k HT.out.he.pos; have := HT.out.he.tot; omega))
  have hbM := hid (fun k => (show 0 ≤ countL M k ∧ countL M k ≤ 2147483648 by have := countL_le k HU.out.he.pos; have := HU.out.he.tot; omega))
  have hadd := hid (fun x y t w => run_fr Ar.add x y t w)
  have hmul := hid (fun x y t w => run_fr Ar.mul x y t w)
  have hquo := hid (fun x y t w => run_fr Ar.quo x y t w)
  clear hat3 hO hz1 hz2 hz3 hSo hKy hHas hWW HT HU Ht Ht' hM' hIs hB3 hB4
  generalize hkk0 : zs.length = kk at *
  have hkk := hid hkk0
  clear hkk0
  have hW6' := hW6
  go_wp2_with fail
  go_loopw [6, 7, 8, 37] (fun d a b i wq => ∃ (k d' a' b' q : Nat), k ≤ kk ∧ i = .int .i64 k ∧ d = .float .f64 d' ∧ a = .float .f64 a' ∧ b = .float .f64 b' ∧ Hid (cl d' = cosS L M (zs.take k)) ∧ Hid (cl a' = cosS L L (zs.take k)) ∧ Hid (cl b' = cosS M M (zs.take k)) ∧ wq = w6.drewN q) (fun _ _ _ i _ => kk - (intOf i).toNat)
  case atStart => exact ⟨0, 0, 0, 0, 0, Nat.zero_le _, rfl, rfl, rfl, rfl, hid cl_zero, hid cl_zero, hid cl_zero, rfl⟩
  case round =>
    obtain ⟨k, d', a', b'', q, hk, rfl, rfl, rfl, rfl, hD, hA, hB, rfl⟩ := hrel
    by_cases hlt3 : k < kk
    · obtain ⟨x, hx⟩ : ∃ x, zs[k]? = some x := ⟨_, List.getElem?_eq_getElem (by rw [hkk.out]; exact hlt3)⟩
      obtain ⟨g, rfl, hg, hcx⟩ := HC.out k x hx
      have s1 := hid (show cosS L M (zs.take (k + 1)) = _ by rw [take_more zs k x hx, cosS_snoc])
      have s2 := hid (show cosS L L (zs.take (k + 1)) = _ by rw [take_more zs k x hx, cosS_snoc])
      have s3 := hid (show cosS M M (zs.take (k + 1)) = _ by rw [take_more zs k x hx, cosS_snoc])
      have hsx := hSize.out x (List.mem_of_getElem? hx)
      have l1 := fun q => ((hT6.out q).look x hsx).1
      have l2 := fun q => ((hU6.out q).look x hsx).1
      have hki : (k : Int) < kk := by omega
      clear hx hsx
      obtain ⟨m12, hm12⟩ := mul_whole _ _ (hbL.out x) (hbM.out x)
      obtain ⟨m11, hm11⟩ := mul_whole _ _ (hbL.out x) (hbL.out x)
      obtain ⟨m22, hm22⟩ := mul_whole _ _ (hbM.out x) (hbM.out x)
      have g12 : ∀ t w, (binOp .mul t (.float .f64 (floatOfInt .f64 (countL L x))) (.float .f64 (floatOfInt .f64 (countL M x)))).run Tryz.prog w = .ok (.float .f64 m12) w := fun t w => run_float_arith w .mul t .f64 _ _ _ hm12
      have g11 : ∀ t w, (binOp .mul t (.float .f64 (floatOfInt .f64 (countL L x))) (.float .f64 (floatOfInt .f64 (countL L x)))).run Tryz.prog w = .ok (.float .f64 m11) w := fun t w => run_float_arith w .mul t .f64 _ _ _ hm11
      have g22 : ∀ t w, (binOp .mul t (.float .f64 (floatOfInt .f64 (countL M x))) (.float .f64 (floatOfInt .f64 (countL M x)))).run Tryz.prog w = .ok (.float .f64 m22) w := fun t w => run_float_arith w .mul t .f64 _ _ _ hm22
      have k12 : cl m12 = opF .mul (some (floatOfInt .f64 (countL L x))) (some (floatOfInt .f64 (countL M x))) := by rw [cl_real (ar_some Ar.mul hm12)]; exact hm12.symm
      have k11 : cl m11 = opF .mul (some (floatOfInt .f64 (countL L x))) (some (floatOfInt .f64 (countL L x))) := by rw [cl_real (ar_some Ar.mul hm11)]; exact hm11.symm
      have k22 : cl m22 = opF .mul (some (floatOfInt .f64 (countL M x))) (some (floatOfInt .f64 (countL M x))) := by rw [cl_real (ar_some Ar.mul hm22)]; exact hm22.symm
      rw [← k12] at s1
      rw [← k11] at s2
      rw [← k22] at s3
      clear hm12 hm11 hm22 k12 k11 k22
      generalize countL L x = C1 at *
      generalize countL M x = C2 at *
      go_wp2_with fail
      refine draw_allB (by kernel_rfl) (by kernel_rfl) ?_
      repeat (refine bq_step (fun K hK => ?_); go_simp; refine ⟨hK _ ?_⟩; clear hK K)
      refine bq_nil ?_
      rintro _ ⟨q2, rfl⟩
      have f2 := hadd.out d' m12
      have f4 := hadd.out a' m11
      have f6 := hadd.out b'' m22
      go_wp2_with fail
      go_roundw
      case rel => exact ⟨k + 1, _, _, _, _, by omega, by go_num, rfl, rfl, rfl, hid (by rw [fr_cl .add, hD.out, s1.out]), hid (by rw [fr_cl .add, hA.out, s2.out]), hid (by rw [fr_cl .add, hB.out, s3.out]), rfl⟩
      case measure => simp [intOf]; omega
    · obtain rfl : k = kk := by omega
      rw [hTk.out] at hD hA hB
      go_wp2_with fail
      with_reducible refine Calls.mono (sqrt65 _ _) ?_
      rintro e w' ⟨r1, q1, rfl, hr1, rfl⟩
      have hR1 := hid hr1
      clear hr1
      go_wp2_with fail
      with_reducible refine Calls.mono (sqrt65 _ _) ?_
      rintro e w' ⟨r2, q2, rfl, hr2, rfl⟩
      have hR2 := hid hr2
      clear hr2
      have f1 := hmul.out r1 r2
      have f2 := fun w1 => hquo.out d' (fr .mul r1 r2 w1)
      go_wp2_with fail
      with_reducible refine Calls.mono (told_any _ _) ?_
      rintro e w' ⟨rfl, rfl⟩
      go_wp2_with fail
      go_ret
      exact ⟨_, rfl, by rw [cl_zeroV, fr_cl .quo, fr_cl .mul, hR1.out, hR2.out, hD.out, hA.out, hB.out, hR.out], hW6.out.trans ⟨rfl, rfl, rfl, Nat.le_refl _, fun _ _ => rfl⟩⟩
end Go.Proofs.YthidjbobjjoekaaGreat
