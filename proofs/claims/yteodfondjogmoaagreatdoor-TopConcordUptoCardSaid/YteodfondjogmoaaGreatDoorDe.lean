/- The law TopConcord, walked: it answers true. Conditions: those of each theorem. -/
import Derived.Test.YteodfondjogmoaaGreatDoorJs
namespace Go.Proofs.YteodfondjogmoaaGreatDoor
open Go Go.RowKit Go.Lib Go.Shelf Go.Maps
set_option linter.unusedVariables false
set_option linter.unusedSimpArgs false
attribute [local go_sem] Oper.semAt_some C.Ext.cell C.Ext.froz C.ExtK.cell
theorem read_any48 (s : ByteArray) (w : World) (hs : s.size ≤ 1100000) : Calls Tryz.prog 45 #[.string s] w (ReadPost s w) := by
  by_cases h : s.size ≤ 65536
  · exact read5 s w h
  · exact read5_long s w (by omega) (by unfold maxLen; omega)
set_option maxRecDepth 100000 in
set_option maxHeartbeats 32000000 in
theorem top13 (w : World) (p : Option Addr) (cap : Nat) (ws : List ByteArray) (wd : ByteArray) (hx : TxIn w p ws) (hl : ws.length ≤ 1100000) (hw : wd.size ≤ 1100000) : Calls Tryz.prog 12 #[.slice p ws.length cap, .string wd] w fun e w' => e = .returned (.bool true) ∧ Below w.heap.size w w' := by
  have hWk := hid (fun W => wakes47 W)
  have hRd := hid (fun s W hs => read_any48 s W hs)
  have hPw := hid (fun (q : Nat) W => pwords7 (some ⟨q, 0, none⟩) W)
  obtain ⟨i0, hi, hz0, hz1, hz2⟩ := info_parts info94
  obtain ⟨n, hln⟩ : ∃ n, ws.length = n := ⟨_, rfl⟩
  rw [hln] at hl ⊢
  have HLN := hid hln
  have HX := hid hx
  clear hln hx
  obtain ⟨A, hA⟩ : ∃ A, A = w.heap.size := ⟨_, rfl⟩
  refine (callsIn_wide (n := 12)).1 ?_
  refine callsIn_of_wp_marks Tryz.func12 rfl trivial ?_ rfl
  simp only [Tryz.ntmps12, List.size_toArray, List.length_cons, List.length_nil, Nat.reduceAdd, Nat.reduceSub, Array.replicate_succ, Array.replicate_zero, List.push_toArray, List.append_toArray, List.nil_append, List.cons_append]
  gi_wp2_with fail
  refine ⟨trivial, ?_⟩
  with_reducible refine CallsIn.mono (callsIn_wide.2 (hWk.out _)) ?_
  rintro e w1 ⟨rfl, hb1⟩
  have kA : Blk w1 A 4 #[.bool false] := by rw [hA]; exact (Blk.new w 4 #[.bool false]).low hb1
  have hB1 : Below A w w1 := by rw [hA]; exact ((Below.refl _ w).alloc (Nat.le_refl _) _).trans (hb1.mono (by rw [World.size_alloc]; omega))
  have hAlt : A < w1.heap.size := kA.lt
  rw [← hA]
  have HA := hid hA
  clear hA hb1
  gi_wp2_with fail
  obtain ⟨N, hNN⟩ : ∃ N, N = w1.heap.size := ⟨_, rfl⟩
  obtain ⟨w2, hw2⟩ : ∃ w2, (w1.alloc (.cells #[.slice none 0 0] 93)).alloc (.cells #[.int .i64 0] 3) = w2 := ⟨_, rfl⟩
  have hL0 : LwI w w2 A N [] (.slice none 0 0) [] 0 := by
    have hs1 : (w1.alloc (.cells #[.slice none 0 0] 93)).heap.size = N + 1 := by rw [World.size_alloc, hNN]
    have hb2 : Below w1.heap.size w1 w2 := by rw [← hw2]; exact ((Below.refl _ _).alloc (Nat.le_refl _) _).alloc (by rw [hs1, hNN]; omega) _
    refine ⟨kA.low hb2, ?_, ?_, World.ownsRow_nil _ _ _ _, fun r hr => (by cases hr), fun r hr => (by cases hr), (by simp), hB1.trans (hb2.mono (by omega)), by omega, List.nodup_nil, fun D hD => (by cases hD), ?_⟩
    · rw [← hw2, hNN]; exact (Blk.new w1 93 #[.slice none 0 0]).alloc _
    · have := Blk.new (w1.alloc (.cells #[.slice none 0 0] 93)) 3 #[.int .i64 0]
      rw [hs1, hw2] at this
      exact this
    · rw [← hw2, World.size_alloc, hs1]; omega
  have HL0 := hid hL0
  have HNN := hid hNN
  rw [hw2]
  try simp only [Nat.add_assoc, Nat.reduceAdd]
  rw [← hNN]
  clear hL0 hw2 kA hB1 hNN
  refine wpIn_loop (fun a' wr => ∃ (k : Nat) (Ds : List Nat) (u0 u2 u3 u7 u8 u9 u10 u11 u12 u13 u14 u15 u16 u17 u18 u19 u20 u21 u22 u23 u27 u28 u29 u30 u31 u32 u33 u34 u35 u36 u37 u38 u39 u40 u41 u42 u43 u44 u45 u46 u47 u48 u49 u50 u51 u52 u53 u54 u55 u56 u57 u58 u59 u60 u61 u62 u63 u64 u65 u66 u67 u68 u69 u70 u71 u72 u73 u74 u75 u76 u77 u78 u79 u80 u81 u82 u83 u84 u85 u86 u87 u88 u89 u90 u91 u92 u93 u94 u95 u96 u97 u98 u99 u100 u101 u102 u103 u104 u105 u106 u107 u108 u109 u110 u111 u112 u113 u114 u115 u116 u117 u118 u119 u120 u121 u122 u123 u124 u125 u126 u127 u128 u129 u130 u131 u132 u133 u134 u135 u136 u137 u138 u139 u140 u141 u142 u143 u144 u145 u146 u147 u148 u149 u150 u151 u152 u153 u154 : Value), a' = { tmps := #[u0, Value.string wd, u2, u3, Value.pointer (some ⟨A, 0, none⟩), Value.pointer (some ⟨N, 0, none⟩), Value.pointer (some ⟨N + 1, 0, none⟩), u7, u8, u9, u10, u11, u12, u13, u14, u15, u16, u17, u18, u19, u20, u21, u22, u23, Value.slice p n cap, Value.int .i64 n, Value.int .i64 k, u27, u28, u29, u30, u31, u32, u33, u34, u35, u36, u37, u38, u39, u40, u41, u42, u43, u44, u45, u46, u47, u48, u49, u50, u51, u52, u53, u54, u55, u56, u57, u58, u59, u60, u61, u62, u63, u64, u65, u66, u67, u68, u69, u70, u71, u72, u73, u74, u75, u76, u77, u78, u79, u80, u81, u82, u83, u84, u85, u86, u87, u88, u89, u90, u91, u92, u93, u94, u95, u96, u97, u98, u99, u100, u101, u102, u103, u104, u105, u106, u107, u108, u109, u110, u111, u112, u113, u114, u115, u116, u117, u118, u119, u120, u121, u122, u123, u124, u125, u126, u127, u128, u129, u130, u131, u132, u133, u134, u135, u136, u137, u138, u139, u140, u141, u142, u143, u144, u145, u146, u147, u148, u149, u150, u151, u152, u153, u154], defers := Ds.map mkD } ∧ k ≤ n ∧ ∃ rs v, Hid (LwI w wr A N rs v Ds (alE 0 (plD rs)).length) ∧ Hid (Below A w wr)) (fun a' wr => n - (RowKit.intOf (a'.tmps.getD 26 undef)).toNat) ?st ?rd
  case st => exact ⟨0, [], _, _, _, _, _, _, _, _, _, _, _, _, _, _, _, _, _, _, _, _, _, _, _, _, _, _, _, _, _, _, _, _, _, _, _, _, _, _, _, _, _, _, _, _, _, _, _, _, _, _, _, _, _, _, _, _, _, _, _, _, _, _, _, _, _, _, _, _, _, _, _, _, _, _, _, _, _, _, _, _, _, _, _, _, _, _, _, _, _, _, _, _, _, _, _, _, _, _, _, _, _, _, _, _, _, _, _, _, _, _, _, _, _, _, _, _, _, _, _, _, _, _, _, _, _, _, _, _, _, _, _, _, _, _, _, _, _, _, _, _, _, _, _, _, _, _, _, _, rfl, Nat.zero_le _, [], _, HL0, hid HL0.out.low⟩
  case rd =>
    intro a9 wr hinv
    obtain ⟨k, hinv⟩ := hinv
    obtain ⟨Ds, hinv⟩ := hinv
    obtain ⟨u0, hinv⟩ := hinv
    obtain ⟨u2, hinv⟩ := hinv
    obtain ⟨u3, hinv⟩ := hinv
    obtain ⟨u7, hinv⟩ := hinv
    obtain ⟨u8, hinv⟩ := hinv
    obtain ⟨u9, hinv⟩ := hinv
    obtain ⟨u10, hinv⟩ := hinv
    obtain ⟨u11, hinv⟩ := hinv
    obtain ⟨u12, hinv⟩ := hinv
    obtain ⟨u13, hinv⟩ := hinv
    obtain ⟨u14, hinv⟩ := hinv
    obtain ⟨u15, hinv⟩ := hinv
    obtain ⟨u16, hinv⟩ := hinv
    obtain ⟨u17, hinv⟩ := hinv
    obtain ⟨u18, hinv⟩ := hinv
    obtain ⟨u19, hinv⟩ := hinv
    obtain ⟨u20, hinv⟩ := hinv
    obtain ⟨u21, hinv⟩ := hinv
    obtain ⟨u22, hinv⟩ := hinv
    obtain ⟨u23, hinv⟩ := hinv
    obtain ⟨u27, hinv⟩ := hinv
    obtain ⟨u28, hinv⟩ := hinv
    obtain ⟨u29, hinv⟩ := hinv
    obtain ⟨u30, hinv⟩ := hinv
    obtain ⟨u31, hinv⟩ := hinv
    obtain ⟨u32, hinv⟩ := hinv
    obtain ⟨u33, hinv⟩ := hinv
    obtain ⟨u34, hinv⟩ := hinv
    obtain ⟨u35, hinv⟩ := hinv
    obtain ⟨u36, hinv⟩ := hinv
    obtain ⟨u37, hinv⟩ := hinv
    obtain ⟨u38, hinv⟩ := hinv
    obtain ⟨u39, hinv⟩ := hinv
    obtain ⟨u40, hinv⟩ := hinv
    obtain ⟨u41, hinv⟩ := hinv
    obtain ⟨u42, hinv⟩ := hinv
    obtain ⟨u43, hinv⟩ := hinv
    obtain ⟨u44, hinv⟩ := hinv
    obtain ⟨u45, hinv⟩ := hinv
    obtain ⟨u46, hinv⟩ := hinv
    obtain ⟨u47, hinv⟩ := hinv
    obtain ⟨u48, hinv⟩ := hinv
    obtain ⟨u49, hinv⟩ := hinv
    obtain ⟨u50, hinv⟩ := hinv
    obtain ⟨u51, hinv⟩ := hinv
    obtain ⟨u52, hinv⟩ := hinv
    obtain ⟨u53, hinv⟩ := hinv
    obtain ⟨u54, hinv⟩ := hinv
    obtain ⟨u55, hinv⟩ := hinv
    obtain ⟨u56, hinv⟩ := hinv
    obtain ⟨u57, hinv⟩ := hinv
    obtain ⟨u58, hinv⟩ := hinv
    obtain ⟨u59, hinv⟩ := hinv
    obtain ⟨u60, hinv⟩ := hinv
    obtain ⟨u61, hinv⟩ := hinv
    obtain ⟨u62, hinv⟩ := hinv
    obtain ⟨u63, hinv⟩ := hinv
    obtain ⟨u64, hinv⟩ := hinv
    obtain ⟨u65, hinv⟩ := hinv
    obtain ⟨u66, hinv⟩ := hinv
    obtain ⟨u67, hinv⟩ := hinv
    obtain ⟨u68, hinv⟩ := hinv
    obtain ⟨u69, hinv⟩ := hinv
    obtain ⟨u70, hinv⟩ := hinv
    obtain ⟨u71, hinv⟩ := hinv
    obtain ⟨u72, hinv⟩ := hinv
    obtain ⟨u73, hinv⟩ := hinv
    obtain ⟨u74, hinv⟩ := hinv
    obtain ⟨u75, hinv⟩ := hinv
    obtain ⟨u76, hinv⟩ := hinv
    obtain ⟨u77, hinv⟩ := hinv
    obtain ⟨u78, hinv⟩ := hinv
    obtain ⟨u79, hinv⟩ := hinv
    obtain ⟨u80, hinv⟩ := hinv
    obtain ⟨u81, hinv⟩ := hinv
    obtain ⟨u82, hinv⟩ := hinv
    obtain ⟨u83, hinv⟩ := hinv
    obtain ⟨u84, hinv⟩ := hinv
    obtain ⟨u85, hinv⟩ := hinv
    obtain ⟨u86, hinv⟩ := hinv
    obtain ⟨u87, hinv⟩ := hinv
    obtain ⟨u88, hinv⟩ := hinv
    obtain ⟨u89, hinv⟩ := hinv
    obtain ⟨u90, hinv⟩ := hinv
    obtain ⟨u91, hinv⟩ := hinv
    obtain ⟨u92, hinv⟩ := hinv
    obtain ⟨u93, hinv⟩ := hinv
    obtain ⟨u94, hinv⟩ := hinv
    obtain ⟨u95, hinv⟩ := hinv
    obtain ⟨u96, hinv⟩ := hinv
    obtain ⟨u97, hinv⟩ := hinv
    obtain ⟨u98, hinv⟩ := hinv
    obtain ⟨u99, hinv⟩ := hinv
    obtain ⟨u100, hinv⟩ := hinv
    obtain ⟨u101, hinv⟩ := hinv
    obtain ⟨u102, hinv⟩ := hinv
    obtain ⟨u103, hinv⟩ := hinv
    obtain ⟨u104, hinv⟩ := hinv
    obtain ⟨u105, hinv⟩ := hinv
    obtain ⟨u106, hinv⟩ := hinv
    obtain ⟨u107, hinv⟩ := hinv
    obtain ⟨u108, hinv⟩ := hinv
    obtain ⟨u109, hinv⟩ := hinv
    obtain ⟨u110, hinv⟩ := hinv
    obtain ⟨u111, hinv⟩ := hinv
    obtain ⟨u112, hinv⟩ := hinv
    obtain ⟨u113, hinv⟩ := hinv
    obtain ⟨u114, hinv⟩ := hinv
    obtain ⟨u115, hinv⟩ := hinv
    obtain ⟨u116, hinv⟩ := hinv
    obtain ⟨u117, hinv⟩ := hinv
    obtain ⟨u118, hinv⟩ := hinv
    obtain ⟨u119, hinv⟩ := hinv
    obtain ⟨u120, hinv⟩ := hinv
    obtain ⟨u121, hinv⟩ := hinv
    obtain ⟨u122, hinv⟩ := hinv
    obtain ⟨u123, hinv⟩ := hinv
    obtain ⟨u124, hinv⟩ := hinv
    obtain ⟨u125, hinv⟩ := hinv
    obtain ⟨u126, hinv⟩ := hinv
    obtain ⟨u127, hinv⟩ := hinv
    obtain ⟨u128, hinv⟩ := hinv
    obtain ⟨u129, hinv⟩ := hinv
    obtain ⟨u130, hinv⟩ := hinv
    obtain ⟨u131, hinv⟩ := hinv
    obtain ⟨u132, hinv⟩ := hinv
    obtain ⟨u133, hinv⟩ := hinv
    obtain ⟨u134, hinv⟩ := hinv
    obtain ⟨u135, hinv⟩ := hinv
    obtain ⟨u136, hinv⟩ := hinv
    obtain ⟨u137, hinv⟩ := hinv
    obtain ⟨u138, hinv⟩ := hinv
    obtain ⟨u139, hinv⟩ := hinv
    obtain ⟨u140, hinv⟩ := hinv
    obtain ⟨u141, hinv⟩ := hinv
    obtain ⟨u142, hinv⟩ := hinv
    obtain ⟨u143, hinv⟩ := hinv
    obtain ⟨u144, hinv⟩ := hinv
    obtain ⟨u145, hinv⟩ := hinv
    obtain ⟨u146, hinv⟩ := hinv
    obtain ⟨u147, hinv⟩ := hinv
    obtain ⟨u148, hinv⟩ := hinv
    obtain ⟨u149, hinv⟩ := hinv
    obtain ⟨u150, hinv⟩ := hinv
    obtain ⟨u151, hinv⟩ := hinv
    obtain ⟨u152, hinv⟩ := hinv
    obtain ⟨u153, hinv⟩ := hinv
    obtain ⟨u154, hinv⟩ := hinv
    obtain ⟨ha9, hk, rs, v, hI, hB⟩ := hinv
    subst ha9
    by_cases hp : k < n
    · obtain ⟨s, hs⟩ : ∃ s, ws[k]? = some s := ⟨_, List.getElem?_eq_getElem (by rw [HLN.out]; exact hp)⟩
      have hsz := HX.out.sz s (List.mem_of_getElem? hs)
      obtain ⟨pb, off, spot, hpe, hc⟩ := HX.out.at' k s hs
      subst hpe
      have hc2 : wr.cell? ((⟨pb, off, spot⟩ : Addr).add k) = some (.string s) := (hB.out.cell (by rw [HA.out]; exact World.block_lt_of_cell? w _ hc)).trans hc
      have hkI : (k : Int) < n := by omega
      clear hc hs
      gi_wp2_with fail
      refine ⟨trivial, ?_⟩
      with_reducible refine CallsIn.mono (callsIn_wide.2 (hRd.out s _ hsz)) ?_
      rintro e w3 ⟨hb3, hR3⟩
      have HI3 := hid (hI.out.up hb3)
      have HB3 := hid (hB.out.trans (hb3.mono (by have := hB.out.size; have := HA.out; omega)))
      rcases hR3 with ⟨q, rfl⟩ | ⟨pb', g', a', cap', L, rfl, hPm, h512, h1024, hlo1, hlo2, hhi1, hhi2, hce, m, hLs⟩
      · have HI4 := hid (HI3.out.up ((Below.refl w3.heap.size w3).alloc (Nat.le_refl _) (.cells #[.int .i64 3, .int .i64 q] 96)))
        have HB4 := hid (HB3.out.alloc (by have := HI3.out.sz; have := HI3.out.an; omega) (.cells #[.int .i64 3, .int .i64 q] 96))
        gi_wp2_with fail
        rw [show ((k : Int) + 1) = ((k + 1 : Nat) : Int) by omega]
        refine ⟨⟨k + 1, Ds, _, _, _, _, _, _, _, _, _, _, _, _, _, _, _, _, _, _, _, _, _, _, _, _, _, _, _, _, _, _, _, _, _, _, _, _, _, _, _, _, _, _, _, _, _, _, _, _, _, _, _, _, _, _, _, _, _, _, _, _, _, _, _, _, _, _, _, _, _, _, _, _, _, _, _, _, _, _, _, _, _, _, _, _, _, _, _, _, _, _, _, _, _, _, _, _, _, _, _, _, _, _, _, _, _, _, _, _, _, _, _, _, _, _, _, _, _, _, _, _, _, _, _, _, _, _, _, _, _, _, _, _, _, _, _, _, _, _, _, _, _, _, _, _, _, _, _, _, rfl, by omega, rs, v, HI4, HB4⟩, ?_⟩
        simp [RowKit.intOf]
        omega
      · obtain ⟨va, vg, vc, rfl, _, _⟩ := HI3.out.ps
        have HI4 := hid (HI3.out.up ((Below.refl w3.heap.size w3).alloc (Nat.le_refl _) (.cells #[.int .i64 0, .int .i64 0] 96)))
        have HB4 := hid (HB3.out.alloc (by have := HI3.out.sz; have := HI3.out.an; omega) (.cells #[.int .i64 0, .int .i64 0] 96))
        have d5 : (w3.alloc (.cells #[.int .i64 0, .int .i64 0] 96)).cell? ⟨N, 0, none⟩ = some (.slice va rs.length vc) := HI4.out.b5.cell (k := 0) rfl
        by_cases h20 : rs.length < 20
        · have g1 : decide ((rs.length : Int) < 20) = true := decide_eq_true (by omega)
          have g2 : decide (rs.length < 20) = true := decide_eq_true h20
          by_cases h8 : s.size < 8192
          · have g3 : decide ((s.size : Int) < 8192) = true := decide_eq_true (by omega)
            have g4 : decide (s.size < 8192) = true := decide_eq_true h8
            have hOk := pm_read (by omega) hPm h512 h1024 ⟨hhi1, hhi2⟩ hce hLs
            have HOK := hid hOk
            have hlo1' : N + 2 ≤ pb' ∧ N + 2 ≤ g' := by have := hI.out.sz; omega
            have H20 := hid h20
            clear h8 h20 hOk hPm hLs hce h512 h1024
            gi_wp2_with (gi_at_builtin; refine stop_app rfl ?_)
            refine hid ?_
            have hlt20 := H20.out
            refine wpListIn_append_own_at _ rfl _ _ 93 rfl (N + 2) 94 i0 _ 1 8 Tryz.underlying93 hi hz0 hz1 hz2 rfl (by decide) (.slice va rs.length vc) rs.length (rs.map pmV) rfl (HI4.out.row.alloc _) ⟨w3.heap.size + 1, 0, none⟩ 1 1 [.pointer (some ⟨pb', 0, none⟩)] rfl rfl (by have := cells_new1 (w3.alloc (.cells #[.int .i64 0, .int .i64 0] 96)) (.pointer (some ⟨pb', 0, none⟩)) 94; rw [World.size_alloc] at this; exact this) (by simp [Value.oneCell']) (by unfold maxLen; omega) (by omega) (by have := HI4.out.sz; rw [World.size_alloc]; omega) ?_
            intro v' W7 hown' hgrow _ hblk
            obtain ⟨gv, cv, rfl⟩ := ownsRow_succ hown'
            have hK7 : Kept (fun q => Value.ownBlock (.slice va rs.length vc) ≠ some q) (w3.alloc (.cells #[.int .i64 0, .int .i64 0] 96)) W7 := (Kept.alloc _ _ _).trans (Kept.grown hgrow (fun r hr h => h hr))
            have hvl : ∀ q, Value.ownBlock (.slice va rs.length vc) = some q → N + 2 ≤ q ∧ q < wr.heap.size := fun q hq => hI.out.row.lt q hq
            have k5 := HI4.out.b5.keep hK7 (fun e => by have := hvl _ e; omega)
            have z5 : W7.frozen? ⟨N, 0, none⟩ = false := k5.froz 0
            have y5 : W7.cell? ⟨N, 0, none⟩ = some (.slice va rs.length vc) := k5.cell (k := 0) rfl
            have HI5 := hid (HI4.out.push (r := ⟨pb', g', a', cap', ⟨s, L⟩⟩) hK7 hown' (hblk.imp id (fun e => ⟨_, e, by simp only [World.size_alloc]; omega⟩)) (HOK.out.low ((Below.refl w3.heap.size w3).alloc (Nat.le_refl _) _)) hlo1' ⟨fun e => by have h1 : pb' < wr.heap.size := (hvl pb' e).2; omega, fun e => by have h1 : g' < wr.heap.size := (hvl g' e).2; omega⟩ hlt20)
            clear hown' hgrow hblk hK7 k5
            gi_wp2_with fail
            refine ⟨trivial, ?_⟩
            with_reducible refine CallsIn.mono (callsIn_wide.2 (hPw.out pb' _)) ?_
            rintro e w9 ⟨rfl, hw9⟩
            obtain ⟨W8, hW8⟩ : ∃ W8, W7.setCell ⟨N, 0, none⟩ (.slice (some ⟨gv, 0, none⟩) (rs.length + 1) cv) = W8 := ⟨_, rfl⟩
            rw [hW8] at HI5 hw9 ⊢
            obtain ⟨tt, htt⟩ : ∃ tt, tt = (alE 0 (plD rs)).length := ⟨_, rfl⟩
            rw [← htt] at HI5
            have HTT := hid htt
            have HI9 := hid (HI5.out.up (W' := w9) (by rw [hw9]; exact (Below.refl _ W8).alloc (Nat.le_refl _) _))
            obtain ⟨kb, hkb⟩ : ∃ kb, kb = W8.heap.size := ⟨_, rfl⟩
            have y9 : w9.heap.size = kb + 1 := by rw [hw9, World.size_alloc, hkb]
            have kk : Blk w9 kb 94 #[.pointer (some ⟨pb', 0, none⟩)] := by rw [hw9, hkb]; exact Blk.new _ _ _
            have hNk : N + 2 ≤ kb := by rw [hkb]; exact HI5.out.sz
            have hrk := (HI9.out.oks ⟨pb', g', a', cap', ⟨s, L⟩⟩ (by simp)).1
            have hrl := hrk.lt
            have hLl := hrk.ok.len
            have hLt := hrk.ok.tx
            dsimp only at hrl hLl hLt
            have hone := hid (pW_one hLt)
            have hbd := hid (alE_push rs ⟨pb', g', a', cap', ⟨s, L⟩⟩)
            have htb : Hid (tt ≤ 40000000 ∧ (pW (eachL 0 L)).length ≤ 600000) := hid (by
              have h1 := alE_bd (plD rs) 0 (fun d hd => by
                obtain ⟨r, hr, rfl⟩ := List.mem_map.1 hd
                exact (hI.out.oks r hr).1.ok)
              rw [← htt, show (plD rs).length = rs.length from List.length_map _] at h1
              have h2 := pW_bd (eachL 0 L) (fun x hx => hLt _ (eachL_mem _ _ _ hx))
              rw [eachL_cnt] at h2
              exact ⟨by omega, by omega⟩)
            have hseq := (pwords_seq of_ok L (by omega) (fun v hv => by have := hLt v hv; omega) pb' g' cap' a' kb w9 (kk.cell (k := 0) rfl) hrk.pm hrk.lt).wide 11
            have Y9 := hid y9
            clear hw9 hW8 htt hrk hLl hLt z5 y5
            rw [← hkb]
            clear hkb
            gi_wp2_with fail
            refine name_actZ ?_
            intro Tm D hTm hD
            refine rangeFunc_s (F := Fence.wide) (α := Nat × ByteArray) rfl (by omega) (gf := 91) (lb := #[.pointer (some ⟨kb, 0, none⟩)]) (by subst hTm; rfl) trivial (enters_of Tryz.func91 (by kernel_rfl) rfl)
              hseq (fun q hq => by rcases hq with rfl | rfl | rfl <;> omega) (Below.refl _ _) (fun _ => rfl)
              (fun pre S W => Kept (fun q => q < kb + 1 ∧ q ≠ N + 1) w9 W ∧ Blk W (N + 1) 3 #[.int .i64 ((tt + pre.length : Nat) : Int)])
              (fun _ _ _ _ => False)
              ?hI (fun c _ _ _ _ _ h _ _ _ => h) ⟨Kept.refl _ _, HI9.out.b6⟩
              (fun pre S x a' W => Kept (fun q => q < kb + 1 ∧ q ≠ N + 1) w9 W ∧ Blk W (N + 1) 3 #[.int .i64 ((tt + pre.length : Nat) : Int)] ∧ a' = { tmps := ((Tm.setIfInBounds 54 (.int .i64 x.1)).setIfInBounds 55 (.string x.2)).setIfInBounds 12 (.string x.2), defers := [] })
              ?hAx ?assign ?body ?done ?stop
            case hI =>
              rintro pre S S' W1 W2 ⟨h1, h2⟩ hS hK hS'
              rw [Y9.out] at hS
              exact ⟨h1.trans (hK.mono fun q _ hq hs => by have := (hS q hs).1; omega), h2.keep hK (fun hs => by have := (hS _ hs).1; omega)⟩
            case hAx =>
              rintro pre S x a' W5 lb o ⟨g4, g5, g6⟩ hSl hS
              have hlb := (hS _ hSl).1
              rw [Y9.out] at hlb
              exact ⟨g4.trans (Kept.putObj W5 (fun h => by omega) o), g5.put (by omega) _, g6⟩
            case assign =>
              rintro l' pre S x W5 K ⟨h1, h2⟩ hW5 hS5 hpre hK
              subst hTm hD
              have H := hK _ _ (Kept.refl _ _) ⟨h1, h2, rfl⟩
              clear hK h1 h2
              obtain ⟨xi, tx⟩ := x
              dsimp only at H
              simp only [List.setIfInBounds_toArray, List.set_cons_succ, List.set_cons_zero] at H
              gi_wp2
              exact H
            case body =>
              rintro l' pre S x a' W5 hSl ⟨rec, hrec⟩ hW5 hS5 hpre ⟨h1, h2, rfl⟩
              have hx1 := hone.out x (hpre.subset (by simp))
              have hpl := hpre.length_le
              rw [List.length_append, List.length_singleton] at hpl
              have htb1 := htb.out
              have hsn : Hid ((pre ++ [x]).length = pre.length + 1) := hid (by simp)
              obtain ⟨xi, tx⟩ := x
              dsimp only at hx1
              have d6 : W5.cell? ⟨N + 1, 0, none⟩ = some (.int .i64 ((tt + pre.length : Nat) : Int)) := h2.cell (k := 0) rfl
              have z6 := h2.froz 0
              obtain ⟨j, hj⟩ : ∃ j, j = tt + pre.length := ⟨_, rfl⟩
              rw [← hj] at d6 h2
              have hmin : min (tx.size : Int) 1 = 1 := by omega
              have hmin2 : min tx.size 1 = 1 := by omega
              have hw1 : IntKind.i64.wrap ((j : Int) + 1) = ((j + 1 : Nat) : Int) := by rw [IntWalk.i64_in _ (by omega)]; omega
              have K1 := hid h1
              have K2 := hid h2
              have HJ := hid hj
              subst hTm hD
              dsimp only
              simp only [List.setIfInBounds_toArray, List.set_cons_succ, List.set_cons_zero]
              clear h1 h2 hpre hrec hseq hj
              gi_wp2_with fail
              show Kept _ _ _ ∧ (Kept _ _ _ ∧ Blk _ (N + 1) 3 #[.int .i64 ((tt + (pre ++ [(xi, tx)]).length : Nat) : Int)])
              rw [hsn.out, ← Nat.add_assoc, ← HJ.out]
              refine ⟨Kept.setCell _ (fun h => ?_) _, K1.out.trans (Kept.setCell _ (fun h => h.2 rfl) _), K2.out.upd 0 _ rfl⟩
              rcases h with (h | h | h) | h
              · have h : N + 1 = kb := h
                omega
              · have h : N + 1 = pb' := h
                omega
              · have h : N + 1 = g' := h
                omega
              · have := (hS5 _ h).1
                have h3 : w9.heap.size ≤ N + 1 := this
                rw [Y9.out] at h3
                omega
            case done =>
              rintro Dk W9 hDk ⟨h1, h2⟩ hK
              have hDl : kb + 1 ≤ Dk := by have := Y9.out; omega
              have HI10 : Hid (LwI w W9 A N (rs ++ [⟨pb', g', a', cap', ⟨s, L⟩⟩]) (.slice (some ⟨gv, 0, none⟩) (rs.length + 1) cv) (Dk :: Ds) (alE 0 (plD (rs ++ [⟨pb', g', a', cap', ⟨s, L⟩⟩]))).length) := hid (by
                rw [hbd.out, ← HTT.out]
                refine (HI9.out.keep (t' := tt + (pW (eachL 0 L)).length) h1 (fun q hq hn => ⟨by have := Y9.out; omega, hn⟩) h2).mark hK (fun D hD => ?_) (by omega)
                have := at_lt (HI9.out.mks D hD).1
                have := Y9.out
                omega)
              clear h1 h2 hK hseq
              subst hTm hD
              gi_wp2_with fail
              rw [show ((k : Int) + 1) = ((k + 1 : Nat) : Int) by omega]
              refine ⟨⟨k + 1, Dk :: Ds, _, _, _, _, _, _, _, _, _, _, _, _, _, _, _, _, _, _, _, _, _, _, _, _, _, _, _, _, _, _, _, _, _, _, _, _, _, _, _, _, _, _, _, _, _, _, _, _, _, _, _, _, _, _, _, _, _, _, _, _, _, _, _, _, _, _, _, _, _, _, _, _, _, _, _, _, _, _, _, _, _, _, _, _, _, _, _, _, _, _, _, _, _, _, _, _, _, _, _, _, _, _, _, _, _, _, _, _, _, _, _, _, _, _, _, _, _, _, _, _, _, _, _, _, _, _, _, _, _, _, _, _, _, _, _, _, _, _, _, _, _, _, _, _, _, _, _, _, rfl, by omega, rs ++ [⟨pb', g', a', cap', ⟨s, L⟩⟩], _, HI10, hid HI10.out.low⟩, ?_⟩
              simp [RowKit.intOf]
              omega
            case stop => exact fun _ _ _ _ _ _ h _ => h.elim
          · have g3 : decide ((s.size : Int) < 8192) = false := decide_eq_false (by omega)
            have g4 : decide (s.size < 8192) = false := decide_eq_false h8
            clear h8 h20
            gi_wp2_with fail
            rw [show ((k : Int) + 1) = ((k + 1 : Nat) : Int) by omega]
            refine ⟨⟨k + 1, Ds, _, _, _, _, _, _, _, _, _, _, _, _, _, _, _, _, _, _, _, _, _, _, _, _, _, _, _, _, _, _, _, _, _, _, _, _, _, _, _, _, _, _, _, _, _, _, _, _, _, _, _, _, _, _, _, _, _, _, _, _, _, _, _, _, _, _, _, _, _, _, _, _, _, _, _, _, _, _, _, _, _, _, _, _, _, _, _, _, _, _, _, _, _, _, _, _, _, _, _, _, _, _, _, _, _, _, _, _, _, _, _, _, _, _, _, _, _, _, _, _, _, _, _, _, _, _, _, _, _, _, _, _, _, _, _, _, _, _, _, _, _, _, _, _, _, _, _, _, rfl, by omega, rs, _, HI4, HB4⟩, ?_⟩
            simp [RowKit.intOf]
            omega
        · have g1 : decide ((rs.length : Int) < 20) = false := decide_eq_false (by omega)
          have g2 : decide (rs.length < 20) = false := decide_eq_false h20
          clear h20
          gi_wp2_with fail
          rw [show ((k : Int) + 1) = ((k + 1 : Nat) : Int) by omega]
          refine ⟨⟨k + 1, Ds, _, _, _, _, _, _, _, _, _, _, _, _, _, _, _, _, _, _, _, _, _, _, _, _, _, _, _, _, _, _, _, _, _, _, _, _, _, _, _, _, _, _, _, _, _, _, _, _, _, _, _, _, _, _, _, _, _, _, _, _, _, _, _, _, _, _, _, _, _, _, _, _, _, _, _, _, _, _, _, _, _, _, _, _, _, _, _, _, _, _, _, _, _, _, _, _, _, _, _, _, _, _, _, _, _, _, _, _, _, _, _, _, _, _, _, _, _, _, _, _, _, _, _, _, _, _, _, _, _, _, _, _, _, _, _, _, _, _, _, _, _, _, _, _, _, _, _, _, rfl, by omega, rs, _, HI4, HB4⟩, ?_⟩
          simp [RowKit.intOf]
          omega
    · obtain rfl : k = n := by omega
      have hkI : ¬ (k : Int) < k := by omega
      have hkd : decide ((k : Int) < k) = false := decide_eq_false hkI
      obtain ⟨la, lg, lc, rfl, hps, hn⟩ := hI.out.ps
      obtain ⟨tt, htt⟩ : ∃ tt, tt = (alE 0 (plD rs)).length := ⟨_, rfl⟩
      rw [← htt] at hI
      have HT := hid htt
      obtain ⟨rl, hrl⟩ : ∃ rl, rs.length = rl := ⟨_, rfl⟩
      have hcn := hI.out.cnt
      have hNew := hid (new50 wr la lg lc rs hps hn (by omega))
      have HPS := hid hps
      have d5 : wr.cell? ⟨N, 0, none⟩ = some (.slice la rs.length lc) := hI.out.b5.cell (k := 0) rfl
      rw [hrl] at hNew d5 hcn hI
      have HRL := hid hrl
      clear hps hn htt hrl
      gi_wp2_with fail
      refine ⟨trivial, ?_⟩
      with_reducible refine CallsIn.mono (callsIn_wide.2 hNew.out) ?_
      rintro e w5 ⟨hb5, hpost⟩
      have HI5 := hid (hI.out.up hb5)
      have HPS5 := hid (HPS.out.low hb5)
      clear hNew d5
      rcases hpost with ⟨rfl, hbig⟩ | ⟨c, E, ks, rfl, hcc⟩
      · rw [← HT.out] at hbig
        have hbI : (32768 : Int) < tt := by omega
        have gd : decide ((32768 : Int) < tt) = true := decide_eq_true hbI
        have gd2 : decide (32768 < tt) = true := decide_eq_true hbig
        have HI6 := hid (HI5.out.up ((Below.refl w5.heap.size w5).alloc (Nat.le_refl _) (.cells #[.pointer none] 27)))
        have d6 : (w5.alloc (.cells #[.pointer none] 27)).cell? ⟨N + 1, 0, none⟩ = some (.int .i64 tt) := HI6.out.b6.cell (k := 0) rfl
        have zA : (w5.alloc (.cells #[.pointer none] 27)).frozen? ⟨A, 0, none⟩ = false := HI6.out.b4.froz 0
        have yA : (w5.alloc (.cells #[.pointer none] 27)).cell? ⟨A, 0, none⟩ = some (.bool false) := HI6.out.b4.cell (k := 0) rfl
        clear hbig
        gi_wp2_with fail
        obtain ⟨f1, f2⟩ := HI6.out.fin HA.out
        refine leaves_marks Ds _ HI6.out.nd f1 (fun w' hw' => ?_)
        obtain ⟨q0, q1⟩ := f2 w' hw'
        exact ⟨.bool true, by simp [results, Tryz.results12, go_sem, q0], rfl, q1⟩
      · have hE : Hid (E.length = tt) := hid (by rw [hcc.eE, HT.out])
        have hle := hcc.lE
        rw [hE.out] at hle
        have gd : decide ((32768 : Int) < tt) = false := decide_eq_false (by omega)
        have gd2 : decide (32768 < tt) = false := decide_eq_false (by omega)
        have hb6 : Below w5.heap.size w5 (w5.alloc (.cells #[.pointer (some ⟨c.cb, 0, none⟩)] 27)) := (Below.refl _ _).alloc (Nat.le_refl _) _
        have HI6 := hid (HI5.out.up hb6)
        have HC6 := hid (hcc.low hb6)
        have HPS6 := hid (HPS5.out.low hb6)
        have d6 : (w5.alloc (.cells #[.pointer (some ⟨c.cb, 0, none⟩)] 27)).cell? ⟨N + 1, 0, none⟩ = some (.int .i64 tt) := HI6.out.b6.cell (k := 0) rfl
        have KC := hid (Blk.new w5 27 #[.pointer (some ⟨c.cb, 0, none⟩)])
        clear hcc hb6
        gi_wp2_with fail
        obtain ⟨w6, hw6⟩ : ∃ w6, w5.alloc (.cells #[.pointer (some ⟨c.cb, 0, none⟩)] 27) = w6 := ⟨_, rfl⟩
        obtain ⟨C0, hC0⟩ : ∃ C0, C0 = w5.heap.size := ⟨_, rfl⟩
        have hCN : N + 2 ≤ C0 := by rw [hC0]; exact HI5.out.sz
        rw [hw6] at HI6 HC6 HPS6 d6 KC ⊢
        rw [← hC0] at KC ⊢
        clear hw6 hC0 d6
        have d5 : w6.cell? ⟨N, 0, none⟩ = some (.slice la rl lc) := HI6.out.b5.cell (k := 0) rfl
        have dC : w6.cell? ⟨C0, 0, none⟩ = some (.pointer (some ⟨c.cb, 0, none⟩)) := KC.out.cell (k := 0) rfl
        have hPo : Hid (∀ z : C.Ext w6, Calls Tryz.prog 23 #[.pointer (some ⟨c.cb, 0, none⟩)] z.w fun e w' => e = .returned (.int .i64 rl) ∧ Below z.w.heap.size z.w w') := hid (fun z => by
          have h := poems24 (HC6.out.low z.h)
          rw [HRL.out] at h
          refine h.mono ?_
          rintro x w' ⟨rfl, rfl⟩
          exact ⟨rfl, Below.refl _ _⟩)
        refine C.ext_allInB (by kernel_rfl) (C.WideF.wide _ _) (by kernel_rfl) (by kernel_rfl) ?_
        repeat (refine C.bq_step (fun K hK => ?_); go_simp; first | (refine ⟨hK _ ?_⟩; clear hK K) | (refine ⟨?_⟩; apply Exists.intro; refine ⟨fun x => ?_, hK _ ?_⟩; (with_reducible exact C.Ext.call (hPo.out _)); clear hK K))
        refine C.bq_nil ?_
        rintro _ ⟨z, rfl⟩
        have HZ := hid z.h
        clear hPo d5 dC
        generalize z.w = w7 at *
        have HI7 := hid (HI6.out.up HZ.out)
        have HC7 := hid (HC6.out.low HZ.out)
        have HPS7 := hid (HPS6.out.low HZ.out)
        have KC7 := hid (KC.out.low HZ.out)
        have dC : w7.cell? ⟨C0, 0, none⟩ = some (.pointer (some ⟨c.cb, 0, none⟩)) := KC7.out.cell (k := 0) rfl
        obtain ⟨kl, hkl⟩ : ∃ kl, ks.length = kl := ⟨_, rfl⟩
        have hSz0 := size22 HC7.out
        rw [hE.out, hkl] at hSz0
        have hSz := hid hSz0
        have HKL := hid hkl
        clear hSz0 hkl
        gi_wp2_with fail
        refine ⟨trivial, ?_⟩
        with_reducible refine CallsIn.mono (callsIn_wide.2 hSz.out) ?_
        rintro e w8 ⟨rfl, hb8⟩
        have HI8 := hid (HI7.out.up hb8)
        have HC8 := hid (HC7.out.low hb8)
        have HPS8 := hid (HPS7.out.low hb8)
        have KC8 := hid (KC7.out.low hb8)
        have hWs := hid (fun W => words23 c.cb W)
        clear dC hSz hb8
        have hbX : Below w8.heap.size w8 (((w8.alloc (.cells #[.int .i64 0] 3)).alloc (.cells #[.int .i64 0] 3)).alloc (.cells #[.string ⟨#[]⟩] 9)) := (((Below.refl _ _).alloc (Nat.le_refl _) _).alloc (by simp) _).alloc (by simp; omega) _
        have dC8 : (((w8.alloc (.cells #[.int .i64 0] 3)).alloc (.cells #[.int .i64 0] 3)).alloc (.cells #[.string ⟨#[]⟩] 9)).cell? ⟨C0, 0, none⟩ = some (.pointer (some ⟨c.cb, 0, none⟩)) := (KC8.out.low hbX).cell (k := 0) rfl
        gi_wp2_with fail
        refine ⟨trivial, ?_⟩
        with_reducible refine CallsIn.mono (callsIn_wide.2 (hWs.out _)) ?_
        rintro e w10 ⟨rfl, hw10⟩
        obtain ⟨Kb, hKb⟩ : ∃ Kb, Kb = w8.heap.size := ⟨_, rfl⟩
        have s1 : (w8.alloc (.cells #[.int .i64 0] 3)).heap.size = Kb + 1 := by rw [World.size_alloc, hKb]
        have s2 : ((w8.alloc (.cells #[.int .i64 0] 3)).alloc (.cells #[.int .i64 0] 3)).heap.size = Kb + 2 := by rw [World.size_alloc, s1]
        have s3 : (((w8.alloc (.cells #[.int .i64 0] 3)).alloc (.cells #[.int .i64 0] 3)).alloc (.cells #[.string ⟨#[]⟩] 9)).heap.size = Kb + 3 := by rw [World.size_alloc, s2]
        have hb10 : Below w8.heap.size w8 w10 := by rw [hw10]; exact hbX.alloc (by rw [s3, hKb]; omega) _
        have y10 : w10.heap.size = Kb + 4 := by rw [hw10, World.size_alloc, s3]
        have k17 : Blk w10 Kb 3 #[.int .i64 0] := by rw [hw10, hKb]; exact (((Blk.new w8 3 #[.int .i64 0]).alloc _).alloc _).alloc _
        have k18 : Blk w10 (Kb + 1) 3 #[.int .i64 0] := by
          have := ((Blk.new (w8.alloc (.cells #[.int .i64 0] 3)) 3 #[.int .i64 0]).alloc (.cells #[.string ⟨#[]⟩] 9)).alloc (.cells #[.pointer (some ⟨c.cb, 0, none⟩)] 27)
          rw [s1, ← hw10] at this
          exact this
        have k19 : Blk w10 (Kb + 2) 9 #[.string ⟨#[]⟩] := by
          have := (Blk.new ((w8.alloc (.cells #[.int .i64 0] 3)).alloc (.cells #[.int .i64 0] 3)) 9 #[.string ⟨#[]⟩]).alloc (.cells #[.pointer (some ⟨c.cb, 0, none⟩)] 27)
          rw [s2, ← hw10] at this
          exact this
        have kx : Blk w10 (Kb + 3) 27 #[.pointer (some ⟨c.cb, 0, none⟩)] := by
          have := Blk.new (((w8.alloc (.cells #[.int .i64 0] 3)).alloc (.cells #[.int .i64 0] 3)).alloc (.cells #[.string ⟨#[]⟩] 9)) 27 #[.pointer (some ⟨c.cb, 0, none⟩)]
          rw [s3, ← hw10] at this
          exact this
        try simp only [World.size_alloc, Nat.add_assoc, Nat.reduceAdd]
        rw [← hKb]
        have hseq := (words_seq2 HC8.out (Kb + 3) w10 hb10 (kx.cell (k := 0) rfl)).wide 11
        have HB10 := hid hb10
        have Y10 := hid y10
        have HKb := hid hKb
        have hKC : C0 < Kb := by rw [hKb]; exact KC8.out.lt
        have H17 := hid k17
        have H18 := hid k18
        have H19 := hid k19
        clear hw10 k17 k18 k19 kx hb10 hKb hWs s1 s2 s3 hbX
        gi_wp2_with fail
        refine name_actZ ?_
        intro Tm D hTm hD
        refine rangeFunc_s (F := Fence.wide) (α := ByteArray × Nat) rfl (by omega) (gf := 52) (lb := #[.pointer (some ⟨Kb + 3, 0, none⟩)]) (by subst hTm; rfl) trivial (enters_of Tryz.func52 (by kernel_rfl) rfl)
          hseq (fun q hq => by have := HKb.out; omega) (Below.refl _ _) (fun _ => rfl)
          (fun pre S W => Kept (fun q => q < Kb ∨ q = Kb + 3) w10 W ∧ Blk W Kb 3 #[.int .i64 (sm pre : Nat)] ∧ Blk W (Kb + 1) 3 #[.int .i64 (pre.length : Nat)] ∧ Blk W (Kb + 2) 9 #[.string (lastK pre)])
          (fun _ _ _ _ => False)
          ?hI2 (fun c _ _ _ _ _ h _ _ _ => h) ⟨Kept.refl _ _, H17.out, H18.out, H19.out⟩
          (fun pre S x a' W => Kept (fun q => q < Kb ∨ q = Kb + 3) w10 W ∧ Blk W Kb 3 #[.int .i64 (sm pre : Nat)] ∧ Blk W (Kb + 1) 3 #[.int .i64 (pre.length : Nat)] ∧ Blk W (Kb + 2) 9 #[.string (lastK pre)] ∧ a' = { tmps := (((Tm.setIfInBounds 91 (.string x.1)).setIfInBounds 92 (.int .i64 x.2)).setIfInBounds 20 (.string x.1)).setIfInBounds 21 (.int .i64 x.2), defers := [] })
          ?hAx2 ?assign2 ?body2 ?done2 ?stop2
        case hI2 =>
          rintro pre S S' W1 W2 ⟨h1, h2, h3, h4⟩ hS hK hS'
          rw [Y10.out] at hS
          have hn : ∀ q, q < Kb + 4 → ¬ S q := fun q hq hs => by have := (hS q hs).1; omega
          exact ⟨h1.trans (hK.mono fun q _ hq => hn q (by omega)), h2.keep hK (hn _ (by omega)), h3.keep hK (hn _ (by omega)), h4.keep hK (hn _ (by omega))⟩
        case hAx2 =>
          rintro pre S x a' W5 lb o ⟨g1, g2, g3, g4, g5⟩ hSl hS
          have hlb := (hS _ hSl).1
          rw [Y10.out] at hlb
          exact ⟨g1.trans (Kept.putObj W5 (fun h => by omega) o), g2.put (by omega) _, g3.put (by omega) _, g4.put (by omega) _, g5⟩
        case assign2 =>
          rintro l' pre S x W5 K ⟨h1, h2, h3, h4⟩ hW5 hS5 hpre hK
          subst hTm hD
          have H := hK _ _ (Kept.refl _ _) ⟨h1, h2, h3, h4, rfl⟩
          clear hK h1 h2 h3 h4
          obtain ⟨κ, m⟩ := x
          dsimp only at H
          simp only [List.setIfInBounds_toArray, List.set_cons_succ, List.set_cons_zero] at H
          gi_wp2
          exact H
        case body2 =>
          rintro l' pre S x a' W5 hSl ⟨rec, hrec⟩ hW5 hS5 hpre ⟨h1, h2, h3, h4, rfl⟩
          obtain ⟨x1, x2, x3, x4, x5⟩ := HC8.out.wk hpre
          have hbW : Below w8.heap.size w8 W5 := HB10.out.trans (h1.below (by have := HB10.out.size; omega) (fun q hq => .inl (by rw [HKb.out]; exact hq)))
          have hsn := hid (sm_snoc pre x)
          have hln := hid (lastK_snoc pre x)
          have hpl : Hid ((pre ++ [x]).length = pre.length + 1) := hid (by simp)
          obtain ⟨un, hun⟩ : ∃ un, un = pre.length := ⟨_, rfl⟩
          obtain ⟨s, hs⟩ : ∃ s, s = sm pre := ⟨_, rfl⟩
          obtain ⟨ls, hls⟩ : ∃ ls, ls = lastK pre := ⟨_, rfl⟩
          have hU : un = 0 ∨ (0 < un ∧ Op.bytesLess x.1.toList ls.toList = false ∧ (x.1.toList == ls.toList) = false) := by
            rcases List.eq_nil_or_concat pre with e0 | ⟨q, y, e0⟩
            · exact .inl (by rw [hun, e0]; rfl)
            · have e1 : pre = q ++ [y] := by rw [e0, List.concat_eq_append]
              refine .inr ⟨by rw [hun, e1, List.length_append, List.length_singleton]; omega, ?_⟩
              rw [e1] at hpre
              have h5 := key_next (wk_rise HC8.out.kk hpre)
              rw [hls, e1, lastK_snoc]
              exact h5
          rw [← hun] at h3 x5 hpl
          rw [← hs] at h2 x4 hsn
          rw [← hls] at h4
          obtain ⟨κ, m⟩ := x
          dsimp only at x1 x2 x3 x4 hU hsn hln
          have HCW := hid (HC8.out.low hbW)
          have HPSW := hid (HPS8.out.low hbW)
          have dC : W5.cell? ⟨C0, 0, none⟩ = some (.pointer (some ⟨c.cb, 0, none⟩)) := (KC8.out.low hbW).cell (k := 0) rfl
          have d5 : W5.cell? ⟨N, 0, none⟩ = some (.slice la rl lc) := (HI8.out.b5.low hbW).cell (k := 0) rfl
          have e1 : W5.cell? ⟨Kb + 1, 0, none⟩ = some (.int .i64 un) := h3.cell (k := 0) rfl
          have e2 : W5.cell? ⟨Kb + 2, 0, none⟩ = some (.string ls) := h4.cell (k := 0) rfl
          have hCo0 := count25 HCW.out κ x1
          rw [← x2] at hCo0
          have hCo := hid hCo0
          have hSt : Hid (∀ W, Below W5.heap.size W5 W → Calls Tryz.prog 48 #[.pointer (some ⟨c.cb, 0, none⟩), .slice la rl lc, .string κ, .int .i64 m] W fun x w' => x = .returned (.bool true) ∧ Below W.heap.size W w') := hid (fun W hW => by
            have h := stands51 (lc := lc) (HCW.out.low hW) (HPSW.out.low hW) (by rw [HRL.out]; omega) κ x1 m x2
            rw [HRL.out] at h
            exact h)
          have g1 : decide ((m : Int) < 1) = false := decide_eq_false (by omega)
          have g2 : decide (m < 1) = false := decide_eq_false (by omega)
          have K1 := hid h1
          have K2 := hid h2
          have K3 := hid h3
          have K4 := hid h4
          have X4 := hid x4
          have X5 := hid x5
          have HUN := hid hun
          have HS := hid hs
          have HLS := hid hls
          have HS5 := hid hS5
          subst hTm hD
          dsimp only
          simp only [List.setIfInBounds_toArray, List.set_cons_succ, List.set_cons_zero]
          clear h1 h2 h3 h4 hpre hrec hseq hun hs hls hCo0 x1 x2 x3 x4 x5 hS5
          rcases hU with h0 | ⟨h0, hlt, heq⟩
          case' inl =>
            have gU : decide ((0 : Int) < (un : Int)) = false := decide_eq_false (by omega)
            have gU2 : decide (0 < un) = false := decide_eq_false (by omega)
            clear h0
            gi_wp2_with fail
          case' inr =>
            have gU : decide ((0 : Int) < (un : Int)) = true := decide_eq_true (by omega)
            have gU2 : decide (0 < un) = true := decide_eq_true (by omega)
            clear h0
            gi_wp2_with fail
          all_goals
            refine ⟨trivial, ?_⟩
            with_reducible refine (CallsIn.inRound l' (callsIn_wide.2 hCo.out)).mono ?_
            rintro e W6 ⟨rfl, hb6⟩
            have dC6 := lowc dC hb6
            have d56 := lowc d5 hb6
            clear dC d5 e1 e2
            gi_wp2_with fail
            refine ⟨trivial, ?_⟩
            with_reducible refine (CallsIn.inRound l' (callsIn_wide.2 (hSt.out _ hb6))).mono ?_
            rintro e W7 ⟨rfl, hb7⟩
            have hbb := hb6.trans (hb7.mono hb6.size)
            have HBB := hid hbb
            have k1 := K2.out.low hbb
            have k2 := K3.out.low hbb
            have w1 : IntKind.i64.wrap ((s : Int) + m) = ((s + m : Nat) : Int) := by have := X4.out; rw [IntWalk.i64_in _ (by omega)]; omega
            have w2 : IntKind.i64.wrap ((un : Int) + 1) = ((un + 1 : Nat) : Int) := by have := X5.out; rw [IntWalk.i64_in _ (by omega)]; omega
            have h00 := H29.start (.int .i64 ((s + m : Nat) : Int)) (.int .i64 ((un + 1 : Nat) : Int)) k1 k2
            have h01 := H29.start1 (.int .i64 ((s + m : Nat) : Int)) (.int .i64 ((un + 1 : Nat) : Int)) k1 k2
            have hne : Kb ≠ Kb + 1 := by omega
            have hne2 : Kb + 1 ≠ Kb := by omega
            have h02 := h01.put2 rfl rfl rfl hne
            have hCl := H29.cls W7 Kb (Kb + 1) (.int .i64 s) (.int .i64 ((s + m : Nat) : Int)) (.int .i64 un) (.int .i64 ((un + 1 : Nat) : Int))
            clear hb6 hb7 dC6 d56 k1 k2 hbb hCo hSt
            gi_wp2_with fail
            refine C.eff_tailIn 8 [(0, some 119), (3, some 122), (6, none), (7, none)] (H29 W7 Kb (Kb + 1) (.int .i64 s) (.int .i64 ((s + m : Nat) : Int)) (.int .i64 un) (.int .i64 ((un + 1 : Nat) : Int))) (fun _ _ _ => False) (by kernel_rfl) (C.WideF.round _ _ _) (by kernel_rfl) (by kernel_rfl) (by kernel_rfl) rfl h00 ?_
            simp only [List.take_succ_cons, List.take_zero, List.drop_succ_cons, List.drop_zero]
            refine C.ge_eff (m := 0) (by kernel_rfl) rfl (C.wit0 h00 (by kernel_rfl)) (fun u => u = .int .i64 s) ?_ ?_
            · intro x' w' hf hx0 hx
              obtain ⟨c1, c2⟩ := hx.read0 hf.1 hx0
              refine ⟨.int .i64 s, w', .inl ?_, rfl, c2⟩
              go_simp
            rintro u rfl
            refine C.gk_step hCl (by kernel_rfl) (C.wit0 h00 (by kernel_rfl)) (fun K hK => ?_)
            go_simp
            refine ⟨hK _ ?_⟩
            clear hK K
            refine C.gk_step hCl (by kernel_rfl) ⟨_, _, C.fit_non rfl (by kernel_rfl) [0] (by kernel_rfl) (fun m hm p hp => ?_), h01⟩ (fun K hK => ?_)
            · rw [List.mem_singleton] at hm
              subst hm
              obtain rfl : (0, some 119) = p := by simpa using hp
              rfl
            go_simp
            refine ⟨hK _ ?_⟩
            clear hK K
            refine C.ge_eff (m := 1) (by kernel_rfl) rfl (C.wit0 h00 (by kernel_rfl)) (fun u => u = .int .i64 un) ?_ ?_
            · intro x' w' hf hx0 hx
              obtain ⟨c1, c2⟩ := hx.read1 hf.1 hx0
              refine ⟨.int .i64 un, w', .inl ?_, rfl, c2⟩
              go_simp
            rintro u rfl
            refine C.gk_step hCl (by kernel_rfl) ⟨_, _, C.fit_non rfl (by kernel_rfl) [1] (by kernel_rfl) (fun m hm p hp => ?_), h01⟩ (fun K hK => ?_)
            · rw [List.mem_singleton] at hm
              subst hm
              obtain rfl : (3, some 122) = p := by simpa using hp
              rfl
            go_simp
            refine ⟨hK _ ?_⟩
            clear hK K
            refine C.gk_step hCl (by kernel_rfl) (C.wit0 h00 (by kernel_rfl)) (fun K hK => ?_)
            go_simp
            refine ⟨hK _ ?_⟩
            clear hK K
            refine C.ge_eff (m := 2) (by kernel_rfl) rfl ⟨_, _, C.fit_at rfl 2 (by kernel_rfl) rfl [0] (by kernel_rfl) (fun m hm p hp => ?_), h01⟩ (fun u => u = undef) ?_ ?_
            · rw [List.mem_singleton] at hm
              subst hm
              obtain rfl : (0, some 119) = p := by simpa using hp
              rfl
            · intro x' w' hf hx2 hx
              have q0 : x'[0]? = some (some (.int .i64 s)) := hf.2.2 0 _ rfl (by kernel_rfl)
              have kc := hx.a.c0 hx2
              have z1 : w'.frozen? ⟨Kb, 0, none⟩ = false := kc.froz 0
              have y1 : w'.cell? ⟨Kb, 0, none⟩ = some (.int .i64 s) := kc.cell (k := 0) rfl
              refine ⟨undef, w'.setCell ⟨Kb, 0, none⟩ (.int .i64 ((s + m : Nat) : Int)), .inr ⟨?_, rfl⟩, rfl, hx.put2 hf.1 q0 hx2 hne⟩
              clear kc q0 hx hf hx2
              go_simp
            rintro u rfl
            refine C.ge_eff (m := 3) (by kernel_rfl) rfl ⟨_, _, C.fit_at rfl 3 (by kernel_rfl) rfl [0, 1, 2] (by kernel_rfl) (fun m hm p hp => ?_), h02⟩ (fun u => u = undef) ?_ ?_
            · simp only [List.mem_cons, List.not_mem_nil, or_false] at hm
              rcases hm with rfl | rfl | rfl
              · obtain rfl : (0, some 119) = p := by simpa using hp
                rfl
              · obtain rfl : (3, some 122) = p := by simpa using hp
                rfl
              · obtain rfl : (6, none) = p := by simpa using hp
                rfl
            · intro x' w' hf hx2 hx
              have q0 : x'[1]? = some (some (.int .i64 un)) := hf.2.2 1 _ rfl (by kernel_rfl)
              have kc := hx.b.c0 hx2
              have z1 : w'.frozen? ⟨Kb + 1, 0, none⟩ = false := kc.froz 0
              have y1 : w'.cell? ⟨Kb + 1, 0, none⟩ = some (.int .i64 un) := kc.cell (k := 0) rfl
              refine ⟨undef, w'.setCell ⟨Kb + 1, 0, none⟩ (.int .i64 ((un + 1 : Nat) : Int)), .inr ⟨?_, rfl⟩, rfl, hx.put3 hf.1 q0 hx2 hne2⟩
              clear kc q0 hx hf hx2
              go_simp
            rintro u rfl
            refine C.ge_nil ?_
            intro w13 hw13
            have hk13 := hw13.kept
            have k17 := hw13.a.c1 _ rfl
            have k18 := hw13.b.c1 _ rfl
            have k19 := (K4.out.low HBB.out).keep hk13 ⟨by omega, by omega⟩
            have z9 : w13.frozen? ⟨Kb + 2, 0, none⟩ = false := k19.froz 0
            have y9 : w13.cell? ⟨Kb + 2, 0, none⟩ = some (.string ls) := k19.cell (k := 0) rfl
            have H17 := hid k17
            have H18 := hid k18
            have H19 := hid k19
            have HK13 := hid hk13
            clear hw13 hk13 k17 k18 k19 h00 h01 h02 hCl w1 w2
            gi_wp2_with fail
            show Kept _ _ _ ∧ (Kept _ _ _ ∧ Blk _ Kb 3 #[.int .i64 (sm (pre ++ [(κ, m)]) : Nat)] ∧ Blk _ (Kb + 1) 3 #[.int .i64 ((pre ++ [(κ, m)]).length : Nat)] ∧ Blk _ (Kb + 2) 9 #[.string (lastK (pre ++ [(κ, m)]))])
            rw [hsn.out, hpl.out, hln.out]
            have hKF : Kept (fun q => q ≠ Kb + 2) w13 (w13.setCell ⟨Kb + 2, 0, none⟩ (.string κ)) := Kept.setCell _ (fun h => h rfl) _
            have hKW : Kept (fun q => q ≠ Kb ∧ q ≠ Kb + 1 ∧ q ≠ Kb + 2) W5 (w13.setCell ⟨Kb + 2, 0, none⟩ (.string κ)) := (Kept.of_all HBB.out _).trans ((HK13.out.mono (fun q _ h => ⟨h.1, h.2.1⟩)).trans (hKF.mono (fun q _ h => h.2.2)))
            refine ⟨hKW.mono (fun q _ h => ?_), K1.out.trans (hKW.mono (fun q _ h => ⟨by omega, by omega, by omega⟩)), H17.out.keep hKF (by omega), H18.out.keep hKF (by omega), H19.out.upd 0 _ rfl⟩
            have hkk := HKb.out
            rcases h with (h | h) | h
            · exact ⟨by omega, by omega, by omega⟩
            · exact ⟨by omega, by omega, by omega⟩
            · have := (HS5.out q h).1
              have := Y10.out
              exact ⟨by omega, by omega, by omega⟩
        case done2 =>
          rintro Dk W9 hDk ⟨h1, h2, h3, h4⟩ hK
          have hDl : Kb + 4 ≤ Dk := by have := Y10.out; omega
          rw [sm_all HC8.out.kk, hE.out] at h2
          rw [wk_len, HKL.out] at h3
          have hbW : Below w8.heap.size w8 W9 := HB10.out.trans (h1.below (by have := HB10.out.size; omega) (fun q hq => .inl (by rw [HKb.out]; exact hq)))
          have HI9 : Hid (LwI w W9 A N rs (.slice la rl lc) (Dk :: Ds) tt) := hid ((HI8.out.up hbW).mark hK (fun D hD => by
            have := at_lt (HI8.out.mks D hD).1
            have := HKb.out
            omega) (by omega))
          have HC9 := hid (HC8.out.low hbW)
          have HPS9 := hid (HPS8.out.low hbW)
          have c1 : W9.cell? ⟨Kb, 0, none⟩ = some (.int .i64 tt) := h2.cell (k := 0) rfl
          have c2 : W9.cell? ⟨Kb + 1, 0, none⟩ = some (.int .i64 kl) := h3.cell (k := 0) rfl
          have c3 : W9.cell? ⟨N + 1, 0, none⟩ = some (.int .i64 tt) := HI9.out.b6.cell (k := 0) rfl
          have dC : W9.cell? ⟨C0, 0, none⟩ = some (.pointer (some ⟨c.cb, 0, none⟩)) := (KC8.out.low hbW).cell (k := 0) rfl
          have d5 : W9.cell? ⟨N, 0, none⟩ = some (.slice la rl lc) := HI9.out.b5.cell (k := 0) rfl
          have KC9 := hid (KC8.out.low hbW)
          clear h1 h2 h3 h4 hK hseq hbW
          subst hTm hD
          gi_wp2_with fail
          obtain ⟨m, hm⟩ : ∃ m, m = (grp E (foldB wd)).length := ⟨_, rfl⟩
          have hPl : Hid (∀ W, Below W9.heap.size W9 W → Calls Tryz.prog 25 #[.pointer (some ⟨c.cb, 0, none⟩), .string wd] W fun e w' => ∃ u, e = .returned u ∧ (∃ a c', u = .slice a m c') ∧ Below W.heap.size W w') := hid (fun W hW => by
            refine (places26 (HC9.out.low hW) wd hw).mono ?_
            rintro e w' ⟨⟨u, rfl, hu⟩, hb⟩
            obtain ⟨a, c', rfl⟩ := own_sl hu
            rw [pl_len, ← hm]
            exact ⟨_, rfl, ⟨_, _, rfl⟩, hb⟩)
          have hCo : Hid (∀ W, Below W9.heap.size W9 W → Calls Tryz.prog 24 #[.pointer (some ⟨c.cb, 0, none⟩), .string wd] W fun e w' => e = .returned (.int .i64 m) ∧ Below W.heap.size W w') := hid (fun W hW => by
            have h := count25 (HC9.out.low hW) wd hw
            rw [← hm] at h
            exact h)
          have hSt : Hid (∀ W, Below W9.heap.size W9 W → Calls Tryz.prog 48 #[.pointer (some ⟨c.cb, 0, none⟩), .slice la rl lc, .string wd, .int .i64 m] W fun e w' => e = .returned (.bool true) ∧ Below W.heap.size W w') := hid (fun W hW => by
            have h := stands51 (lc := lc) (HC9.out.low hW) (HPS9.out.low hW) (by rw [HRL.out]; omega) wd hw m hm
            rw [HRL.out] at h
            exact h)
          obtain ⟨T, hT⟩ : ∃ T : Nat → Prop, T = fun q => q < W9.heap.size := ⟨_, rfl⟩
          have hCl : C.ClsK T W9 (H30 W9) := by rw [hT]; exact H30.cls W9
          have a1 : T C0 = True := eq_true (by rw [hT]; exact KC9.out.lt)
          have a2 : T N = True := eq_true (by rw [hT]; exact HI9.out.b5.lt)
          have h00 := H30.start W9
          clear hT hm
          refine C.eff_tailIn 17 [] (H30 W9) (fun f _ u => (f = 25 → ∃ a c', u = .slice a m c') ∧ (f = 24 → u = .int .i64 m) ∧ (f = 48 → u = .bool true)) (by kernel_rfl) (C.WideF.wide _ _) (by kernel_rfl) (by kernel_rfl) (by kernel_rfl) rfl h00 ?_
          simp only [List.take_succ_cons, List.take_zero, List.drop_succ_cons, List.drop_zero]
          iterate 2 (refine C.gk_step hCl (by kernel_rfl) (C.wit0 h00 (by kernel_rfl)) (fun K hK => ?_); go_simp; refine ⟨hK _ ?_⟩; clear hK K)
          refine C.ge_call (f := 25) (args := #[.pointer (some ⟨c.cb, 0, none⟩), .string wd]) (C.wit0 h00 (by kernel_rfl)) rfl (fun x w' _ _ => by go_simp) ⟨.slice none m 0, fun _ => ⟨_, _, rfl⟩, fun h => absurd h (by decide), fun h => absurd h (by decide)⟩ (fun x w' _ hx => ?_) (.inl (by kernel_rfl)) ?_
          · refine (hPl.out w' hx).mono ?_
            rintro e w'' ⟨u, rfl, hu, hb⟩
            exact ⟨u, rfl, ⟨fun _ => hu, fun h => absurd h (by decide), fun h => absurd h (by decide)⟩, Below.trans hx (hb.mono hx.size)⟩
          rintro u ⟨hu, -, -⟩
          obtain ⟨pa, pc, rfl⟩ := hu rfl
          iterate 3 (refine C.gk_step hCl (by kernel_rfl) (C.wit0 h00 (by kernel_rfl)) (fun K hK => ?_); go_simp; refine ⟨hK _ ?_⟩; clear hK K)
          refine C.ge_call (f := 24) (args := #[.pointer (some ⟨c.cb, 0, none⟩), .string wd]) (C.wit0 h00 (by kernel_rfl)) rfl (fun x w' _ _ => by go_simp) ⟨.int .i64 m, fun h => absurd h (by decide), fun _ => rfl, fun h => absurd h (by decide)⟩ (fun x w' _ hx => ?_) (.inl (by kernel_rfl)) ?_
          · refine (hCo.out w' hx).mono ?_
            rintro e w'' ⟨rfl, hb⟩
            exact ⟨_, rfl, ⟨fun h => absurd h (by decide), fun _ => rfl, fun h => absurd h (by decide)⟩, Below.trans hx (hb.mono hx.size)⟩
          rintro u ⟨-, hu, -⟩
          obtain rfl := hu rfl
          iterate 7 (refine C.gk_step hCl (by kernel_rfl) (C.wit0 h00 (by kernel_rfl)) (fun K hK => ?_); go_simp; refine ⟨hK _ ?_⟩; clear hK K)
          refine C.ge_call (f := 24) (args := #[.pointer (some ⟨c.cb, 0, none⟩), .string wd]) (C.wit0 h00 (by kernel_rfl)) rfl (fun x w' _ _ => by go_simp) ⟨.int .i64 m, fun h => absurd h (by decide), fun _ => rfl, fun h => absurd h (by decide)⟩ (fun x w' _ hx => ?_) (.inl (by kernel_rfl)) ?_
          · refine (hCo.out w' hx).mono ?_
            rintro e w'' ⟨rfl, hb⟩
            exact ⟨_, rfl, ⟨fun h => absurd h (by decide), fun _ => rfl, fun h => absurd h (by decide)⟩, Below.trans hx (hb.mono hx.size)⟩
          rintro u ⟨-, hu, -⟩
          obtain rfl := hu rfl
          refine C.ge_call (f := 48) (args := #[.pointer (some ⟨c.cb, 0, none⟩), .slice la rl lc, .string wd, .int .i64 m]) (C.wit0 h00 (by kernel_rfl)) rfl (fun x w' _ _ => by go_simp) ⟨.bool true, fun h => absurd h (by decide), fun h => absurd h (by decide), fun _ => rfl⟩ (fun x w' _ hx => ?_) (.inl (by kernel_rfl)) ?_
          · refine (hSt.out w' hx).mono ?_
            rintro e w'' ⟨rfl, hb⟩
            exact ⟨_, rfl, ⟨fun h => absurd h (by decide), fun h => absurd h (by decide), fun _ => rfl⟩, Below.trans hx (hb.mono hx.size)⟩
          rintro u ⟨-, -, hu⟩
          obtain rfl := hu rfl
          refine C.gk_step hCl (by kernel_rfl) (C.wit0 h00 (by kernel_rfl)) (fun K hK => ?_)
          go_simp
          refine ⟨hK _ ?_⟩
          clear hK K
          refine C.ge_nil ?_
          intro w12 hw12
          have HI12 := hid (HI9.out.up hw12)
          have zA : w12.frozen? ⟨A, 0, none⟩ = false := HI12.out.b4.froz 0
          have yA : w12.cell? ⟨A, 0, none⟩ = some (.bool false) := HI12.out.b4.cell (k := 0) rfl
          clear hw12 h00 hCl a1 a2 hPl hCo hSt dC d5 c1 c2 c3
          gi_wp2_with fail
          obtain ⟨f1, f2⟩ := HI12.out.fin HA.out
          refine leaves_marks (Dk :: Ds) _ HI12.out.nd f1 (fun w' hw' => ?_)
          obtain ⟨q0, q1⟩ := f2 w' hw'
          exact ⟨.bool true, by simp [results, Tryz.results12, go_sem, q0], rfl, q1⟩
        case stop2 => exact fun _ _ _ _ _ _ h _ => h.elim
end Go.Proofs.YteodfondjogmoaaGreatDoor
