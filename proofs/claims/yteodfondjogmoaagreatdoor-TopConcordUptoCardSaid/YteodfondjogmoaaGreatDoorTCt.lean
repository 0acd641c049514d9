/- concord.New, walked. Conditions: those of each theorem. -/
import Derived.Test.YteodfondjogmoaaGreatDoorJp
namespace Go.Proofs.YteodfondjogmoaaGreatDoor
open Go Go.RowKit Go.Lib Go.Shelf Go.Maps
set_option linter.unusedVariables false
set_option linter.unusedSimpArgs false
attribute [local go_sem] Oper.semAt_some C.Ext.cell C.Ext.froz C.ExtK.cell
set_option maxRecDepth 100000 in
set_option maxHeartbeats 32000000 in
theorem new50 (w : World) (a : Option Addr) (g cap : Nat) (rs : List PmR) (h : PsAt w a g rs) (hn : (rs = [] ∧ a = none) ∨ a = some ⟨g, 0, none⟩) (hl : rs.length ≤ 200) : Calls Tryz.prog 47 #[.slice a rs.length cap] w (NewPost w rs) := by
  obtain ⟨N, hNN⟩ : ∃ N, N = w.heap.size := ⟨_, rfl⟩
  have hb1 : Below N w ((w.alloc (.cells #[.pointer none] 27)).alloc (.cells #[.int .i64 0] 75)) := by rw [hNN]; exact ((Below.refl _ w).alloc (Nat.le_refl _) _).alloc (by rw [World.size_alloc]; omega) _
  have hs1 : ((w.alloc (.cells #[.pointer none] 27)).alloc (.cells #[.int .i64 0] 75)).heap.size = N + 2 := by rw [World.size_alloc, World.size_alloc, hNN]
  have k2 : Blk ((w.alloc (.cells #[.pointer none] 27)).alloc (.cells #[.int .i64 0] 75)) N 27 #[.pointer none] := by rw [hNN]; exact (Blk.new w 27 _).alloc _
  have k3 : Blk ((w.alloc (.cells #[.pointer none] 27)).alloc (.cells #[.int .i64 0] 75)) (N + 1) 75 #[.int .i64 0] := by
    have := Blk.new (w.alloc (.cells #[.pointer none] 27)) 75 #[.int .i64 0]
    rw [World.size_alloc, ← hNN] at this
    exact this
  have hp1 : PsAt ((w.alloc (.cells #[.pointer none] 27)).alloc (.cells #[.int .i64 0] 75)) a g rs := h.low (by rw [← hNN]; exact hb1)
  have hC := hid (contains96 _ a g cap rs hp1 (by omega))
  have hCl := hid (clone97 _ a g cap rs hp1 hn (by omega))
  have hF := hid fold40
  obtain ⟨n, hln⟩ : ∃ n, rs.length = n := ⟨_, rfl⟩
  rw [hln] at hl hC hCl ⊢
  have hg256 : decide ((256 : Int) < n) = false := decide_eq_false (by omega)
  have hH := hid h
  have HLN := hid hln
  clear h hln hp1
  generalize hw1 : (w.alloc (.cells #[.pointer none] 27)).alloc (.cells #[.int .i64 0] 75) = w1 at *
  refine (callsIn_wide (n := 9)).1 ?_
  refine callsIn_of_wp_marks Tryz.func47 rfl trivial ?_ rfl
  simp only [Tryz.ntmps47, List.size_toArray, List.length_cons, List.length_nil, Nat.reduceAdd, Nat.reduceSub, Array.replicate_succ, Array.replicate_zero, List.push_toArray, List.append_toArray, List.nil_append, List.cons_append]
  gi_wp2_with fail
  refine ⟨trivial, ?_⟩
  with_reducible refine CallsIn.mono (callsIn_wide.2 hC.out) ?_
  rintro e w' ⟨rfl, rfl⟩
  gi_wp2_with fail
  refine ⟨trivial, ?_⟩
  with_reducible refine CallsIn.mono (callsIn_wide.2 hCl.out) ?_
  rintro e w2 ⟨⟨v, rfl, hv⟩, hb2⟩
  rw [← HLN.out] at hv
  have hrok : ∀ r ∈ rs, PmOk w2 r := fun r hr => by
    obtain ⟨k, hk⟩ := List.getElem?_of_mem hr
    have h1 := (hH.out.row k r hk).2.low (by rw [← hNN]; exact hb1)
    exact h1.low hb2
  obtain ⟨pa, pg, pc, rfl, hps, _⟩ := ps_of_own hv hrok
  rw [HLN.out]
  clear hC hCl hv hrok
  have hs2 : N + 2 ≤ w2.heap.size := by have := hb2.size; omega
  have k22 := k2.low hb2
  have k32 := k3.low hb2
  have hB2 : Below N w w2 := hb1.trans (hb2.mono (by omega))
  have hmm := @run_makeMap Tryz.prog
  gi_wp2_with fail
  obtain ⟨M, hMM⟩ : ∃ M, M = w2.heap.size := ⟨_, rfl⟩
  obtain ⟨w5, hw5⟩ : ∃ w5, ((w2.alloc (.map #[] 0)).alloc (.cells #[.slice pa n pc, .slice none 0 0, .slice none 0 0, .slice none 0 0, .map (some w2.heap.size)] 107)).alloc (.cells #[.pointer (some ⟨w2.heap.size + 1, 0, none⟩)] 27) = w5 := ⟨_, rfl⟩
  rw [hw5]
  have z1 : (w2.alloc (.map #[] 0)).heap.size = M + 1 := by rw [World.size_alloc, hMM]
  have z2 : ((w2.alloc (.map #[] 0)).alloc (.cells #[.slice pa n pc, .slice none 0 0, .slice none 0 0, .slice none 0 0, .map (some w2.heap.size)] 107)).heap.size = M + 2 := by rw [World.size_alloc, z1]
  have z5 : w5.heap.size = M + 3 := by rw [← hw5, World.size_alloc, z2]
  have hB5 : Below M w2 w5 := by rw [← hw5, hMM]; exact (((Below.refl _ w2).alloc (Nat.le_refl _) _).alloc (by rw [z1, hMM]; omega) _).alloc (by rw [z2, hMM]; omega) _
  obtain ⟨X, hX⟩ : ∃ X : Nx, X = ⟨M + 2, M + 1, M, M + 1, pa, pc⟩ := ⟨_, rfl⟩
  have hO0 : OutI w5 M X n rs 0 [] w5 := by
    have hg : GrAt w5 M (M + 1) (fun g => g < M ∨ g ∈ ([] : List Nat)) [] := by
      have h0 := GrAt.nil w2 (fun g => g < M ∨ g ∈ ([] : List Nat))
      rw [← hMM] at h0
      have h1 := h0.keep (Kept.alloc (fun _ => True) (w2.alloc (.map #[] 0)) (.cells #[.slice pa n pc, .slice none 0 0, .slice none 0 0, .slice none 0 0, .map (some w2.heap.size)] 107)) trivial (fun g hg => (hg trivial).elim)
      have h2 := h1.keep (Kept.alloc (fun _ => True) _ (.cells #[.pointer (some ⟨w2.heap.size + 1, 0, none⟩)] 27)) trivial (fun g hg => (hg trivial).elim)
      rw [hw5] at h2
      exact h2
    have h27 : Blk w5 (M + 2) 27 #[.pointer (some ⟨M + 1, 0, none⟩)] := by
      have := Blk.new ((w2.alloc (.map #[] 0)).alloc (.cells #[.slice pa n pc, .slice none 0 0, .slice none 0 0, .slice none 0 0, .map (some w2.heap.size)] 107)) 27 #[.pointer (some ⟨w2.heap.size + 1, 0, none⟩)]
      rw [z2, hw5, ← hMM] at this
      exact this
    have h107 : Blk w5 (M + 1) 107 #[.slice pa n pc, .slice none 0 0, .slice none 0 0, .slice none 0 0, .map (some M)] := by
      have := (Blk.new (w2.alloc (.map #[] 0)) 107 #[.slice pa n pc, .slice none 0 0, .slice none 0 0, .slice none 0 0, .map (some w2.heap.size)]).alloc (.cells #[.pointer (some ⟨w2.heap.size + 1, 0, none⟩)] 27)
      rw [z1, hw5, ← hMM] at this
      exact this
    rw [hX]
    exact ⟨⟨_, _, h27, h107, World.ownsRow_nil _ _ _ _, World.ownsRow_nil _ _ _ _, hg, by simp, by simp, by simp, fun g hg => by simp [Value.ownBlock] at hg, fun g hg => by simp [Value.ownBlock] at hg, fun g hg => by rcases hg with hg | hg; omega; simp at hg, by simp [alE], by show M + 1 ≤ _; omega⟩, Below.refl _ _, List.nodup_nil, fun D hD => by simp at hD, by omega⟩
  have hB9 : Hid (Below N w w5) := hid (hB2.trans (hB5.mono (by omega)))
  have hr2 := hid (k22.keep (Kept.of_below hB5 (T := fun g => g < M) (fun _ _ h => h)) (by show N < M; omega))
  have hr3 := hid (k32.keep (Kept.of_below hB5 (T := fun g => g < M) (fun _ _ h => h)) (by show N + 1 < M; omega))
  have HB5 := hid hB5
  have HPs2 := hid hps
  have hO := hid hO0
  have HNN := hid hNN
  have HMM := hid hMM
  have HX := hid hX
  have hMN : N + 2 ≤ M := by omega
  have Z5 := hid z5
  clear hO0 hw5 z1 z2 z5 hB5 hps k22 k32 hb1 hb2 hs1 k2 k3 hB2 hw1 hs2 hmm
  simp only [Nat.add_assoc, Nat.reduceAdd]
  rw [← hNN, ← hMM]
  clear hNN hMM hX
  refine wpIn_loop (fun a' wr => ∃ (k : Nat) (Ds : List Nat) (u0 u1 u5 u6 u7 u8 u9 u10 u11 u12 u13 u14 u15 u16 u17 u18 u19 u20 u21 u22 u23 u27 u28 u29 u30 u31 u32 u33 u34 u35 u36 u37 u38 u39 u40 u41 u42 u43 u44 u45 u46 u47 u48 u49 u50 u51 u52 u53 u54 u55 u56 u57 u58 u59 u60 u61 u62 u63 u64 u65 u66 u67 u68 u69 u70 u71 u72 u73 u74 u75 u76 u77 u78 u79 u80 u81 u82 u83 u84 u85 u86 u87 u88 u89 u90 u91 u92 u93 u94 u95 u96 u97 u98 u99 u100 u101 u102 u103 u104 u105 u106 u107 u108 u109 u110 u111 u112 u113 u114 u115 u116 u117 u118 u119 u120 u121 u122 u123 : Value), a' = { tmps := #[u0, u1, Value.pointer (some ⟨N, 0, none⟩), Value.pointer (some ⟨N + 1, 0, none⟩), Value.pointer (some ⟨M + 2, 0, none⟩), u5, u6, u7, u8, u9, u10, u11, u12, u13, u14, u15, u16, u17, u18, u19, u20, u21, u22, u23, Value.slice a n cap, Value.int .i64 n, Value.int .i64 k, u27, u28, u29, u30, u31, u32, u33, u34, u35, u36, u37, u38, u39, u40, u41, u42, u43, u44, u45, u46, u47, u48, u49, u50, u51, u52, u53, u54, u55, u56, u57, u58, u59, u60, u61, u62, u63, u64, u65, u66, u67, u68, u69, u70, u71, u72, u73, u74, u75, u76, u77, u78, u79, u80, u81, u82, u83, u84, u85, u86, u87, u88, u89, u90, u91, u92, u93, u94, u95, u96, u97, u98, u99, u100, u101, u102, u103, u104, u105, u106, u107, u108, u109, u110, u111, u112, u113, u114, u115, u116, u117, u118, u119, u120, u121, u122, u123], defers := Ds.map mkD } ∧ k ≤ n ∧ Hid (OutI w5 M X n rs k Ds wr)) (fun a' wr => n - (RowKit.intOf (a'.tmps.getD 26 undef)).toNat) ?st ?rd
  case st => exact ⟨0, [], _, _, _, _, _, _, _, _, _, _, _, _, _, _, _, _, _, _, _, _, _, _, _, _, _, _, _, _, _, _, _, _, _, _, _, _, _, _, _, _, _, _, _, _, _, _, _, _, _, _, _, _, _, _, _, _, _, _, _, _, _, _, _, _, _, _, _, _, _, _, _, _, _, _, _, _, _, _, _, _, _, _, _, _, _, _, _, _, _, _, _, _, _, _, _, _, _, _, _, _, _, _, _, _, _, _, _, _, _, _, _, _, _, _, _, _, _, _, rfl, Nat.zero_le _, hO⟩
  case rd =>
    intro a9 wr hinv
    obtain ⟨k, hinv⟩ := hinv
    obtain ⟨Ds, hinv⟩ := hinv
    obtain ⟨u0, hinv⟩ := hinv
    obtain ⟨u1, hinv⟩ := hinv
    obtain ⟨u5, hinv⟩ := hinv
    obtain ⟨u6, hinv⟩ := hinv
    obtain ⟨u7, hinv⟩ := hinv
    obtain ⟨u8, hinv⟩ := hinv
    obtain ⟨u9, hinv⟩ := hinv
    obtain ⟨u10, hinv⟩ := hinv
    obtain ⟨u11, hinv⟩ := hinv
    obtain ⟨u12, hinv⟩ := hinv
    obtain ⟨u13, hinv⟩ := hinv
    obtain ⟨u14, hinv⟩ := hinv
    obtain ⟨u15, hinv⟩ := hinv
    obtain ⟨u16, hinv⟩ := hinv
    obtain ⟨u17, hinv⟩ := hinv
    obtain ⟨u18, hinv⟩ := hinv
    obtain ⟨u19, hinv⟩ := hinv
    obtain ⟨u20, hinv⟩ := hinv
    obtain ⟨u21, hinv⟩ := hinv
    obtain ⟨u22, hinv⟩ := hinv
    obtain ⟨u23, hinv⟩ := hinv
    obtain ⟨u27, hinv⟩ := hinv
    obtain ⟨u28, hinv⟩ := hinv
    obtain ⟨u29, hinv⟩ := hinv
    obtain ⟨u30, hinv⟩ := hinv
    obtain ⟨u31, hinv⟩ := hinv
    obtain ⟨u32, hinv⟩ := hinv
    obtain ⟨u33, hinv⟩ := hinv
    obtain ⟨u34, hinv⟩ := hinv
    obtain ⟨u35, hinv⟩ := hinv
    obtain ⟨u36, hinv⟩ := hinv
    obtain ⟨u37, hinv⟩ := hinv
    obtain ⟨u38, hinv⟩ := hinv
    obtain ⟨u39, hinv⟩ := hinv
    obtain ⟨u40, hinv⟩ := hinv
    obtain ⟨u41, hinv⟩ := hinv
    obtain ⟨u42, hinv⟩ := hinv
    obtain ⟨u43, hinv⟩ := hinv
    obtain ⟨u44, hinv⟩ := hinv
    obtain ⟨u45, hinv⟩ := hinv
    obtain ⟨u46, hinv⟩ := hinv
    obtain ⟨u47, hinv⟩ := hinv
    obtain ⟨u48, hinv⟩ := hinv
    obtain ⟨u49, hinv⟩ := hinv
    obtain ⟨u50, hinv⟩ := hinv
    obtain ⟨u51, hinv⟩ := hinv
    obtain ⟨u52, hinv⟩ := hinv
    obtain ⟨u53, hinv⟩ := hinv
    obtain ⟨u54, hinv⟩ := hinv
    obtain ⟨u55, hinv⟩ := hinv
    obtain ⟨u56, hinv⟩ := hinv
    obtain ⟨u57, hinv⟩ := hinv
    obtain ⟨u58, hinv⟩ := hinv
    obtain ⟨u59, hinv⟩ := hinv
    obtain ⟨u60, hinv⟩ := hinv
    obtain ⟨u61, hinv⟩ := hinv
    obtain ⟨u62, hinv⟩ := hinv
    obtain ⟨u63, hinv⟩ := hinv
    obtain ⟨u64, hinv⟩ := hinv
    obtain ⟨u65, hinv⟩ := hinv
    obtain ⟨u66, hinv⟩ := hinv
    obtain ⟨u67, hinv⟩ := hinv
    obtain ⟨u68, hinv⟩ := hinv
    obtain ⟨u69, hinv⟩ := hinv
    obtain ⟨u70, hinv⟩ := hinv
    obtain ⟨u71, hinv⟩ := hinv
    obtain ⟨u72, hinv⟩ := hinv
    obtain ⟨u73, hinv⟩ := hinv
    obtain ⟨u74, hinv⟩ := hinv
    obtain ⟨u75, hinv⟩ := hinv
    obtain ⟨u76, hinv⟩ := hinv
    obtain ⟨u77, hinv⟩ := hinv
    obtain ⟨u78, hinv⟩ := hinv
    obtain ⟨u79, hinv⟩ := hinv
    obtain ⟨u80, hinv⟩ := hinv
    obtain ⟨u81, hinv⟩ := hinv
    obtain ⟨u82, hinv⟩ := hinv
    obtain ⟨u83, hinv⟩ := hinv
    obtain ⟨u84, hinv⟩ := hinv
    obtain ⟨u85, hinv⟩ := hinv
    obtain ⟨u86, hinv⟩ := hinv
    obtain ⟨u87, hinv⟩ := hinv
    obtain ⟨u88, hinv⟩ := hinv
    obtain ⟨u89, hinv⟩ := hinv
    obtain ⟨u90, hinv⟩ := hinv
    obtain ⟨u91, hinv⟩ := hinv
    obtain ⟨u92, hinv⟩ := hinv
    obtain ⟨u93, hinv⟩ := hinv
    obtain ⟨u94, hinv⟩ := hinv
    obtain ⟨u95, hinv⟩ := hinv
    obtain ⟨u96, hinv⟩ := hinv
    obtain ⟨u97, hinv⟩ := hinv
    obtain ⟨u98, hinv⟩ := hinv
    obtain ⟨u99, hinv⟩ := hinv
    obtain ⟨u100, hinv⟩ := hinv
    obtain ⟨u101, hinv⟩ := hinv
    obtain ⟨u102, hinv⟩ := hinv
    obtain ⟨u103, hinv⟩ := hinv
    obtain ⟨u104, hinv⟩ := hinv
    obtain ⟨u105, hinv⟩ := hinv
    obtain ⟨u106, hinv⟩ := hinv
    obtain ⟨u107, hinv⟩ := hinv
    obtain ⟨u108, hinv⟩ := hinv
    obtain ⟨u109, hinv⟩ := hinv
    obtain ⟨u110, hinv⟩ := hinv
    obtain ⟨u111, hinv⟩ := hinv
    obtain ⟨u112, hinv⟩ := hinv
    obtain ⟨u113, hinv⟩ := hinv
    obtain ⟨u114, hinv⟩ := hinv
    obtain ⟨u115, hinv⟩ := hinv
    obtain ⟨u116, hinv⟩ := hinv
    obtain ⟨u117, hinv⟩ := hinv
    obtain ⟨u118, hinv⟩ := hinv
    obtain ⟨u119, hinv⟩ := hinv
    obtain ⟨u120, hinv⟩ := hinv
    obtain ⟨u121, hinv⟩ := hinv
    obtain ⟨u122, hinv⟩ := hinv
    obtain ⟨u123, hinv⟩ := hinv
    obtain ⟨ha9, hk, hI⟩ := hinv
    subst ha9
    by_cases hp : k < n
    · have hkI : (k : Int) < n := by omega
      obtain ⟨r, hr⟩ : ∃ r, rs[k]? = some r := ⟨_, List.getElem?_eq_getElem (by rw [HLN.out]; exact hp)⟩
      have hBwr : Below N w wr := hB9.out.trans (hI.out.low.mono (by omega))
      have hPw := hH.out.low (by rw [← HNN.out]; exact hBwr)
      have haa : a = some ⟨g, 0, none⟩ := hH.out.ha.resolve_left (fun e => by rw [e] at hr; cases hr)
      subst haa
      obtain ⟨hcr, hok⟩ := hPw.row k r hr
      have hrlt := (hH.out.row k r hr).2.lt
      rw [← HNN.out] at hrlt
      have hdk : (plD rs)[k]? = some r.d := by show (rs.map (·.d))[k]? = _; rw [List.getElem?_map, hr]; rfl
      have hE1 := hid (alE_take (plD rs) k r.d hdk)
      have hEle := hid (alE_take_le (plD rs) (k + 1))
      obtain ⟨E0, hE0⟩ : ∃ E0, E0 = alE 0 ((plD rs).take k) := ⟨_, rfl⟩
      have HE0 := hid hE0
      have HOK := hid hok
      have HBwr := hid hBwr
      have HI := hI
      have hwsz := hI.out.sz
      have hlL : r.d.L.length ≤ 70000 := by have := hok.ok.len; omega
      have htL : ∀ v ∈ r.d.L, v.tx.size ≤ 1024 := hok.ok.tx
      have HTL := hid htL
      have hP := hid (fun W => each11 (some ⟨r.pb, 0, none⟩) W)
      clear hI hE0 hdk hBwr hPw hok hr htL
      gi_wp2_with fail
      refine ⟨trivial, ?_⟩
      with_reducible refine CallsIn.mono (callsIn_wide.2 (hP.out _)) ?_
      rintro e w9 ⟨rfl, hw9⟩
      obtain ⟨b5, hb5⟩ : ∃ b5, b5 = wr.heap.size := ⟨_, rfl⟩
      have y1 : (wr.alloc (.cells #[.int .i64 k] 3)).heap.size = b5 + 1 := by rw [World.size_alloc, hb5]
      have y2 : ((wr.alloc (.cells #[.int .i64 k] 3)).alloc (.cells #[.int .i64 0] 3)).heap.size = b5 + 2 := by rw [World.size_alloc, y1]
      have y9 : w9.heap.size = b5 + 3 := by rw [hw9, World.size_alloc, y2]
      have hB9' : Below wr.heap.size wr w9 := by rw [hw9]; exact (((Below.refl _ wr).alloc (Nat.le_refl _) _).alloc (by rw [World.size_alloc]; omega) _).alloc (by rw [y2, hb5]; omega) _
      have k5 : Blk w9 b5 3 #[.int .i64 k] := by rw [hw9, hb5]; exact ((Blk.new wr 3 #[.int .i64 k]).alloc _).alloc _
      have k7 : Blk w9 (b5 + 1) 3 #[.int .i64 0] := by
        have := (Blk.new (wr.alloc (.cells #[.int .i64 k] 3)) 3 #[.int .i64 0]).alloc (.cells #[.pointer (some ⟨r.pb, 0, none⟩)] 94)
        rw [y1, ← hw9] at this
        exact this
      have kk : Blk w9 (b5 + 2) 94 #[.pointer (some ⟨r.pb, 0, none⟩)] := by
        have := Blk.new ((wr.alloc (.cells #[.int .i64 k] 3)).alloc (.cells #[.int .i64 0] 3)) 94 #[.pointer (some ⟨r.pb, 0, none⟩)]
        rw [y2, ← hw9] at this
        exact this
      obtain ⟨F1, hF1⟩ : ∃ F1 : Nat → Prop, F1 = fun q => q < M ∨ q ∈ Ds ∨ q = b5 ∨ q = b5 + 2 := ⟨_, rfl⟩
      have f1 : Hid (∀ q, F1 q → q < M ∨ q ∈ Ds ∨ q = b5 ∨ q = b5 + 2) := hid (fun q h => by rw [hF1] at h; exact h)
      have f2 : Hid (∀ q, q < M ∨ q ∈ Ds ∨ q = b5 ∨ q = b5 + 2 → F1 q) := hid (fun q h => by rw [hF1]; exact h)
      have hdl : Hid (∀ D ∈ Ds, M + 3 ≤ D ∧ D < b5) := hid (fun D hD => by
        have := HI.out.mks D hD
        exact ⟨this.2, by rw [hb5]; exact (Array.getElem?_eq_some_iff.1 this.1).1⟩)
      have f3 : Hid (∀ q, F1 q → q < b5 + 3) := hid (fun q h => by
        rcases f1.out q h with h | h | h | h
        · omega
        · have := hdl.out q h; omega
        all_goals omega)
      have hI0 : Hid (StI w9 X n F1 [(b5 + 1, (pmE k 0 []).length)] (E0 ++ pmE k 0 []) none' w9) := hid (by
        obtain ⟨hv, ov, hnw⟩ := HI.out.nw
        rw [← HE0.out] at hnw
        refine ⟨⟨hv, ov, ?_⟩, ?_, Kept.refl _ _⟩
        · have e : E0 ++ pmE k 0 [] = E0 := by simp [pmE]
          rw [e]
          refine hnw.keep (Kept.of_all hB9' (fun _ => True)) (fun _ _ => trivial) (fun q hq => ?_)
          rcases hq with hq | ⟨c, hc, rfl⟩ | hq
          · rcases f1.out q hq with h | h | h | h
            · exact .inl (.inl h)
            · exact .inl (.inr h)
            all_goals exact .inr (by omega)
          · rw [List.mem_singleton] at hc; subst hc; exact .inr (by dsimp only; omega)
          · exact hq.elim
        · intro c hc
          rw [List.mem_singleton] at hc; subst hc
          exact k7)
      have HB9w := hid hB9'
      have K5 := hid k5
      have hseq := (each_seq r.d.L hlL r.pb r.g r.cap r.a (b5 + 2) w9 (kk.cell (k := 0) rfl) (HOK.out.pm.low hB9')).wide 8
      have Y9 := hid y9
      have HB5w := hid hb5
      have hb5M : M + 3 ≤ b5 := by omega
      clear hw9 y1 y2 hB9' k5 k7 kk hF1 hP hcr
      try simp only [World.size_alloc, Nat.add_assoc, Nat.reduceAdd]
      rw [← hb5]
      clear hb5
      gi_wp2_with fail
      refine name_actZ ?_
      intro Tm D hTm hD
      refine rangeFunc_s (F := Fence.wide) (α := Nat × Vs) rfl (by omega) (gf := 132) (lb := #[.pointer (some ⟨b5 + 2, 0, none⟩)]) (by subst hTm; rfl) trivial (enters_of Tryz.func132 (by kernel_rfl) rfl)
        hseq (fun q hq => by rcases hq with h | h | h <;> omega) (Below.refl _ _) (fun _ => rfl)
        (fun pre S W => StI w9 X n F1 [(b5 + 1, (pmE k 0 pre).length)] (E0 ++ pmE k 0 pre) S W)
        (fun c _ S W => ErrI w9 F1 N rs c W)
        ?hI ?hIx hI0.out
        (fun pre S x a' W => ∃ Bi Bv, w9.heap.size ≤ Bi ∧ Bi < Bv ∧ ¬ S Bi ∧ ¬ S Bv ∧ Blk W Bi 3 #[.int .i64 x.1] ∧ Blk W Bv 136 x.2.cells ∧ StI w9 X n F1 [(b5 + 1, (pmE k 0 pre).length)] (E0 ++ pmE k 0 pre) (fun q => S q ∨ q = Bi ∨ q = Bv) W ∧ a' = { tmps := (((Tm.setIfInBounds 33 (.int .i64 x.1)).setIfInBounds 34 x.2.v).setIfInBounds 8 (.pointer (some ⟨Bi, 0, none⟩))).setIfInBounds 9 (.pointer (some ⟨Bv, 0, none⟩)), defers := [] })
        ?hAx ?assign ?body ?done ?stop
      case hI =>
        intro pre S S' W1 W2 h hS hK hS'
        exact h.free (B := w9.heap.size) (fun q hq => by have := f3.out q hq; have := Y9.out; omega) (fun c hc => by rw [List.mem_singleton] at hc; subst hc; have := Y9.out; dsimp only; omega) hS hK hS'
      case hIx =>
        intro c pre S S' W1 W2 h hS hK hS'
        exact h.free (B := w9.heap.size) (fun q hq => by have := f3.out q hq; have := Y9.out; omega) (by have := Y9.out; omega) hS hK
      case hAx =>
        intro pre S x a' W5 lb o ⟨Bi, Bv, g1, g1', g2, g2', g3, g3', g4, g7⟩ hSl hS
        have hb := g3'.lt
        refine ⟨Bi, Bv, g1, g1', g2, g2', g3.put (fun e => g2 (e ▸ hSl)) _, g3'.put (fun e => g2' (e ▸ hSl)) _, ?_, g7⟩
        exact g4.free (B := w9.heap.size) (fun q hq => by have := f3.out q hq; have := Y9.out; omega) (fun c hc => by rw [List.mem_singleton] at hc; subst hc; have := Y9.out; dsimp only; omega) (fun q hq => hq.elim (fun h => hS q h) (fun h => by omega)) (Kept.putObj W5 (fun h => h (.inl hSl)) _) (fun q h => .inl h)
      case assign =>
        rintro l' pre S x W5 K hJ5 hW5 hS5 hpre hK
        subst hTm hD
        have kA : ∀ T, Kept T W5 ((W5.alloc (.cells #[.int .i64 x.1] 3)).alloc (.cells x.2.cells 136)) := fun T => (Kept.alloc T W5 _).trans (Kept.alloc T _ _)
        have hB1 := (Blk.new W5 3 #[.int .i64 x.1]).alloc (.cells x.2.cells 136)
        have hB2 := Blk.new (W5.alloc (.cells #[.int .i64 x.1] 3)) 136 x.2.cells
        rw [World.size_alloc] at hB2
        have hJ6 := hJ5.free (B := w9.heap.size) (S' := fun q => S q ∨ q = W5.heap.size ∨ q = W5.heap.size + 1) (fun q hq => by have := f3.out q hq; have := Y9.out; omega) (fun c hc => by rw [List.mem_singleton] at hc; subst hc; have := Y9.out; dsimp only; omega) hS5 (kA _) (fun q h => by
          rcases h with h | h
          · exact .inl h
          · exact .inr ⟨by omega, by simp only [World.size_alloc]; omega⟩)
        have H := hK _ _ (kA _) ⟨W5.heap.size, W5.heap.size + 1, by omega, by omega, (fun h => by have := (hS5 _ h).2; omega), (fun h => by have := (hS5 _ h).2; omega), hB1, hB2, hJ6, rfl⟩
        clear hK kA hB1 hB2 hJ6 hJ5
        obtain ⟨xi, tx, va, vb, vc, vf, vt⟩ := x
        dsimp only at H
        simp only [List.setIfInBounds_toArray, List.set_cons_succ, List.set_cons_zero] at H
        gi_wp2
        exact H
      case body =>
        rintro l' pre S x a' W5 hSl ⟨rec, hrec⟩ hW5 hS5 hpre ⟨Bi, Bv, hBi, hBv, hSi, hSv, ki, kv, hJ5, rfl⟩
        have hts := HTL.out x.2 (eachL_mem r.d.L 0 x (hpre.subset (by simp)))
        have hmore := hid (pmE_pre k pre _ x hpre)
        have hln := HOK.out.ok.at' x.2 (eachL_mem r.d.L 0 x (hpre.subset (by simp)))
        have hsrc := HOK.out.ok.sz
        have hsn := hid (pmE_snoc k pre 0 x)
        have hwo := hid (words_fine x.2.tx (by omega)).2
        have hbv := kv.lt
        have hl0 := at_lt hrec
        have hSl2 := hS5 _ hSl
        obtain ⟨v, hv0⟩ : ∃ v, v = x.2 := ⟨_, rfl⟩
        obtain ⟨xi, tx, va, vb, vc, vf, vt⟩ := x
        dsimp only at ki kv hts hwo hmore hsn hv0 hln
        obtain ⟨ln1, ln2, ln3, -⟩ := hln
        dsimp only at ln1 ln2 ln3
        have LN2 := hid ln2
        have LN3 := hid ln3
        have hvf : vf ≤ 65536 := by omega
        have hvt : vf + tx.size ≤ 65536 := by omega
        clear ln2 ln3
        obtain ⟨num, hnum⟩ : ∃ num, num = (pmE k 0 pre).length := ⟨_, rfl⟩
        obtain ⟨E1, hE1e⟩ : ∃ E1, E1 = E0 ++ pmE k 0 pre := ⟨_, rfl⟩
        rw [← hnum, ← hE1e] at hJ5
        have HNUM := hid hnum
        have HE1e := hid hE1e
        have HV0 := hid hv0
        clear hnum hE1e hv0 hpre
        have hWd := hid (fun W => words27 tx W)
        have c0 : W5.cell? ⟨Bv, 0, none⟩ = some (.string tx) := kv.cell (k := 0) rfl
        have KI := hid ki
        have KV := hid kv
        have HJ5 := hid hJ5
        have HS5 := hid hS5
        have HRC := hid hrec
        subst hTm hD
        dsimp only
        simp only [List.setIfInBounds_toArray, List.set_cons_succ, List.set_cons_zero]
        clear ki kv hJ5 hS5 hrec hseq hI0
        gi_wp2_with fail
        refine ⟨trivial, ?_⟩
        with_reducible refine (CallsIn.inRound l' (callsIn_wide.2 (hWd.out _))).mono ?_
        rintro e W6 ⟨rfl, hw6⟩
        obtain ⟨b10, hb10⟩ : ∃ b10, b10 = W5.heap.size := ⟨_, rfl⟩
        have y1 : (W5.alloc (.cells #[.int .i64 0] 3)).heap.size = b10 + 1 := by rw [World.size_alloc, hb10]
        have y6 : W6.heap.size = b10 + 2 := by rw [hw6, World.size_alloc, y1]
        have hB6 : Below W5.heap.size W5 W6 := by rw [hw6]; exact ((Below.refl _ W5).alloc (Nat.le_refl _) _).alloc (by rw [y1, hb10]; omega) _
        have k10 : Blk W6 b10 3 #[.int .i64 0] := by rw [hw6, hb10]; exact (Blk.new W5 3 #[.int .i64 0]).alloc _
        have kx : Blk W6 (b10 + 1) 9 #[.string tx] := by
          have := Blk.new (W5.alloc (.cells #[.int .i64 0] 3)) 9 #[.string tx]
          rw [y1, ← hw6] at this
          exact this
        have KI6 := hid (KI.out.low hB6)
        have KV6 := hid (KV.out.low hB6)
        have hR6 : Hid (W6.heap[l']? = some (.loop rec)) := hid ((hB6.block l' hl0).trans HRC.out)
        have HK6 : Hid (Kept (fun q => (q = b5 + 2 ∨ q = r.pb ∨ q = r.g) ∨ S q) W5 W6) := hid (Kept.of_all hB6 _)
        have HK9 : Hid (Kept F1 w9 W6) := hid (HJ5.out.kp.trans (Kept.of_all hB6 _))
        have HRN := hid (((hr2.out.keep (Kept.of_below HI.out.low (T := fun q => q < M) (fun _ _ h => h)) (show N < M by omega)).low HB9w.out).keep HK9.out (f2.out _ (.inl (by omega))))
        have HRN1 := hid (((hr3.out.keep (Kept.of_below HI.out.low (T := fun q => q < M) (fun _ _ h => h)) (show N + 1 < M by omega)).low HB9w.out).keep HK9.out (f2.out _ (.inl (by omega))))
        have K56 := hid (K5.out.keep HK9.out (f2.out _ (.inr (.inr (.inl rfl)))))
        obtain ⟨F2, hF2⟩ : ∃ F2 : Nat → Prop, F2 = fun q => F1 q ∨ S q ∨ q = Bi ∨ q = Bv ∨ q = b10 + 1 := ⟨_, rfl⟩
        have g1 : Hid (∀ q, F2 q → F1 q ∨ S q ∨ q = Bi ∨ q = Bv ∨ q = b10 + 1) := hid (fun q h => by rw [hF2] at h; exact h)
        have g2 : Hid (∀ q, F1 q ∨ S q ∨ q = Bi ∨ q = Bv ∨ q = b10 + 1 → F2 q) := hid (fun q h => by rw [hF2]; exact h)
        have g3 : Hid (∀ q, F2 q → q < b10 + 2) := hid (fun q h => by
          have := Y9.out
          rcases g1.out q h with h | h | h | h | h
          · have := f3.out q h; omega
          · have := HS5.out q h; omega
          all_goals omega)
        have h02 : Hid (StI W6 X n F2 [(b5 + 1, num + ([] : List Tk).length), (b10, ([] : List Tk).length)] (E1 ++ wdE k num xi v []) none' W6) := hid (by
          have e : E1 ++ wdE k num xi v [] = E1 := by simp [wdE]
          rw [e]
          refine HJ5.out.more hB6 (fun c hc => ?_) (fun q hq => ?_)
          · rw [List.mem_cons, List.mem_singleton] at hc
            rcases hc with rfl | rfl
            · exact .inl (by simp)
            · exact .inr k10
          · rcases hq with hq | ⟨c, hc, rfl⟩ | hq
            · rcases g1.out q hq with h | h | h | h | h
              · exact .inl (.inl h)
              · exact .inl (.inr (.inr (.inl h)))
              · exact .inl (.inr (.inr (.inr (.inl h))))
              · exact .inl (.inr (.inr (.inr (.inr h))))
              · exact .inr (by omega)
            · rw [List.mem_cons, List.mem_singleton] at hc
              rcases hc with rfl | rfl
              · exact .inl (.inr (.inl ⟨_, List.mem_singleton.2 rfl, rfl⟩))
              · exact .inr (by dsimp only; omega)
            · exact hq.elim)
        have hseq2 := SeqS.inRound l' ((words_seq of_ok tx (by omega) (b10 + 1) W6 (kx.cell (k := 0) rfl)).wide 6)
        have Y6 := hid y6
        have hb10b : b5 + 3 ≤ b10 := by have := Y9.out; omega
        have HB10 := hid hb10
        have HB10b := hid hb10
        clear hw6 y1 k10 kx hB6 KI KV HRC hWd c0 hF2 HJ5
        try simp only [World.size_alloc, Nat.add_assoc, Nat.reduceAdd]
        rw [← hb10]
        clear hb10
        gi_wp2_with fail
        refine name_actZ ?_
        intro Tm2 D2 hTm2 hD2
        refine rangeFunc_sN (F := Fence.wide.inRound l') (n := 9 - 1 - 1) (α := Tk) (l₀ := l') (r₀ := rec) rfl hR6.out (by omega) (gf := 127) (lb := #[.pointer (some ⟨b10 + 1, 0, none⟩)]) (by subst hTm2; rfl) trivial (enters_of Tryz.func127 (by kernel_rfl) rfl)
          hseq2 (fun q hq => by omega) (Below.refl _ _) (fun _ => rfl)
          (fun qs S' Y => StI W6 X n F2 [(b5 + 1, num + qs.length), (b10, qs.length)] (E1 ++ wdE k num xi v qs) S' Y)
          (fun c _ S' Y => ErrI W6 F2 N rs c Y)
          ?hI2 ?hIx2 h02.out
          (fun qs S' y a' Y => ∃ Bp, W6.heap.size ≤ Bp ∧ ¬ S' Bp ∧ Blk Y Bp 37 #[.int .i64 y.f, .int .i64 y.t] ∧ StI W6 X n F2 [(b5 + 1, num + qs.length), (b10, qs.length)] (E1 ++ wdE k num xi v qs) (fun q => S' q ∨ q = Bp) Y ∧ a' = { tmps := (Tm2.setIfInBounds 38 y.span).setIfInBounds 11 (.pointer (some ⟨Bp, 0, none⟩)), defers := [] })
          ?hAx2 ?assign2 ?body2 ?done2 ?stop2
        case hI2 =>
          intro qs S' S'' W1 W2 h hS hK hS'
          exact h.free (B := W6.heap.size) (fun q hq => by have := g3.out q hq; have := Y6.out; omega) (fun c hc => by rw [List.mem_cons, List.mem_singleton] at hc; have := Y6.out; rcases hc with rfl | rfl <;> (dsimp only; omega)) hS hK hS'
        case hIx2 =>
          intro c qs S' S'' W1 W2 h hS hK hS'
          exact h.free (B := W6.heap.size) (fun q hq => by have := g3.out q hq; have := Y6.out; omega) (by have := Y6.out; omega) hS hK
        case hAx2 =>
          intro qs S' y a' Y lb o ⟨Bp, g1, g1', g4, g5, g7⟩ hSl hS
          have hb := g4.lt
          refine ⟨Bp, g1, g1', g4.put (fun e => g1' (e ▸ hSl)) _, ?_, g7⟩
          exact g5.free (B := W6.heap.size) (fun q hq => by have := g3.out q hq; have := Y6.out; omega) (fun c hc => by rw [List.mem_cons, List.mem_singleton] at hc; have := Y6.out; rcases hc with rfl | rfl <;> (dsimp only; omega)) (fun q hq => hq.elim (fun h => hS q h) (fun h => by omega)) (Kept.putObj Y (fun h => h (.inl hSl)) _) (fun q h => .inl h)
        case assign2 =>
          rintro l2 qs S' y Y K hJ7 hY7 hS7 hpre2 hK
          subst hTm2 hD2
          have hB := Blk.new Y 37 #[.int .i64 y.f, .int .i64 y.t]
          have hJ8 := hJ7.free (B := W6.heap.size) (W' := Y.alloc (.cells #[.int .i64 y.f, .int .i64 y.t] 37)) (S' := fun q => S' q ∨ q = Y.heap.size) (fun q hq => by have := g3.out q hq; have := Y6.out; omega) (fun c hc => by rw [List.mem_cons, List.mem_singleton] at hc; have := Y6.out; rcases hc with rfl | rfl <;> (dsimp only; omega)) hS7 (Kept.alloc _ _ _) (fun q h => h.imp id (fun h => ⟨by omega, by rw [World.size_alloc]; omega⟩))
          have H := hK _ _ (Kept.alloc _ _ _) ⟨Y.heap.size, by omega, (fun h => by have := (hS7 _ h).2; omega), hB, hJ8, rfl⟩
          clear hK hB hJ8 hJ7
          obtain ⟨kd, f, t⟩ := y
          dsimp only at H
          simp only [List.setIfInBounds_toArray, List.set_cons_succ, List.set_cons_zero] at H
          gi_wp2
          exact H
        case body2 =>
          rintro l2 qs S' y a' Y hSl2' ⟨rec2, hrec2⟩ hY7 hS7 hpre2 ⟨Bp, hBp, hSp, kp, hJ7, rfl⟩
          have hym := hwo.out y (hpre2.subset (by simp))
          have hpl := hpre2.length_le
          rw [List.length_append, List.length_singleton] at hpl
          have hsn2 := hid (wdE_snoc k num xi v qs y)
          obtain ⟨kd, f, t⟩ := y
          dsimp only at kp hym hsn2
          obtain ⟨fn, rfl⟩ := Int.eq_ofNat_of_zero_le (show 0 ≤ f by omega)
          obtain ⟨tn, rfl⟩ := Int.eq_ofNat_of_zero_le (show 0 ≤ t by omega)
          have hbp := kp.lt
          obtain ⟨E2, hE2⟩ : ∃ E2, E2 = E1 ++ wdE k num xi v qs := ⟨_, rfl⟩
          have hlE2 : E2.length = E1.length + qs.length := by rw [hE2, List.length_append, wdE_len]
          have hlE1 : E1.length = E0.length + num := by rw [HE1e.out, List.length_append, HNUM.out]
          rw [← hE2] at hJ7
          have HLE2 := hid hlE2
          have HLE1 := hid hlE1
          have HE2 := hid hE2
          clear hlE2 hlE1 hE2
          obtain ⟨⟨hv, ov, hnw⟩, hct, hkp⟩ := hJ7
          have hX := HX.out
          subst hX
          obtain ⟨ah, ch, rfl⟩ := own_sl hnw.hr
          have hlen := hnw.len
          have k7 : Blk Y (b5 + 1) 3 #[.int .i64 ((num + qs.length : Nat) : Int)] := hct _ (List.mem_cons_self ..)
          have k10 : Blk Y b10 3 #[.int .i64 (qs.length : Int)] := hct (b10, qs.length) (by simp)
          have tb0 : Y.cell? ⟨M + 2, 0, none⟩ = some (.pointer (some ⟨M + 1, 0, none⟩)) := hnw.tbk.cell (k := 0) rfl
          have cb1 : Y.cell? ⟨M + 1, 1, none⟩ = some (.slice ah E2.length ch) := hnw.cbk.cell (k := 1) rfl
          have KVY := hid (KV6.out.keep hkp (g2.out _ (.inr (.inr (.inr (.inl rfl))))))
          have KIY := hid (KI6.out.keep hkp (g2.out _ (.inr (.inr (.inl rfl)))))
          have K5Y := hid (K56.out.keep hkp (g2.out _ (.inl (f2.out _ (.inr (.inr (.inl rfl)))))))
          have HCT := hid hct
          have HKP := hid hkp
          have HNW := hid hnw
          have KP := hid kp
          have K7Y := hid k7
          have K10Y := hid k10
          have HS7 := hid hS7
          subst hTm2 hD2
          dsimp only
          simp only [List.setIfInBounds_toArray, List.set_cons_succ, List.set_cons_zero]
          by_cases hfull : E2.length = 32768
          · have hI : ((E2.length : Nat) : Int) = 32768 := by omega
            have hd : decide (((E2.length : Nat) : Int) = 32768) = true := decide_eq_true hI
            have hd2 : (((E2.length : Nat) : Int) == 32768) = true := beq_t hI
            have kN := HRN.out.keep hkp (g2.out _ (.inl (f2.out _ (.inl (by omega)))))
            have kN1 := HRN1.out.keep hkp (g2.out _ (.inl (f2.out _ (.inl (by omega)))))
            have z2 := kN.froz 0
            have z3 := kN1.froz 0
            have z4 : Y.cell? ⟨N, 0, none⟩ = some (.pointer none) := kN.cell (k := 0) rfl
            have z5 : Y.cell? ⟨N + 1, 0, none⟩ = some (.int .i64 0) := kN1.cell (k := 0) rfl
            have HFL := hid hfull
            clear hI hfull
            have hfin : Hid (Kept (fun q => q = b10 + 1 ∨ S' q) Y ((Y.setCell ⟨N, 0, none⟩ (.pointer none)).setCell ⟨N + 1, 0, none⟩ (.int .i64 3)) ∧ ErrI W6 F2 N rs .ret ((Y.setCell ⟨N, 0, none⟩ (.pointer none)).setCell ⟨N + 1, 0, none⟩ (.int .i64 3))) := hid (by
              have kS : Kept (fun q => q ≠ N ∧ q ≠ N + 1) Y ((Y.setCell ⟨N, 0, none⟩ (.pointer none)).setCell ⟨N + 1, 0, none⟩ (.int .i64 3)) := (Kept.setCell Y (fun h => h.1 rfl) _).trans (Kept.setCell _ (fun h => h.2 rfl) _)
              refine ⟨kS.mono (fun q _ h => ?_), rfl, ?_, ?_, ?_, ?_⟩
              · rcases h with rfl | h
                · exact ⟨by omega, by omega⟩
                · have := (HS7.out q h).1; exact ⟨by omega, by omega⟩
              · exact (kN.upd 0 _ rfl).keep (Kept.setCell (T := fun q => q ≠ N + 1) _ (fun h => h rfl) _) (by omega)
              · exact (kN1.keep (Kept.setCell (T := fun q => q ≠ N) _ (fun h => h rfl) _) (by omega)).upd 0 _ rfl
              · exact (HKP.out.mono (fun q _ h => h.1)).trans (kS.mono (fun q _ h => h.2))
              · have hlE2 := HLE2.out
                have hlE1 := HLE1.out
                have hfull := HFL.out
                have := hmore.out
                have := hEle.out
                have h3 := hE1.out
                rw [← HE0.out] at h3
                rw [h3, List.length_append] at this
                have := HNUM.out
                omega)
            clear hnw hct hkp kp k7 k10 kN kN1 hseq2 h02
            gi_wp2_with fail
            exact hfin.out
          · have hd : decide (((E2.length : Nat) : Int) = 32768) = false := decide_eq_false (by omega)
            have hd2 : (((E2.length : Nat) : Int) == 32768) = false := beq_f (by omega)
            have HNF := hid hfull
            have hF2 := hid (hF.out (tx.extract fn tn) (by rw [ByteArray.size_extract]; omega))
            have hxt : (fn : Int) ≤ tn := by omega
            have hxt2 : decide (fn ≤ tn) = true := decide_eq_true (by omega)
            have hts2 : (tn : Int) ≤ tx.size := by omega
            have hxs : (fn : Int) ≤ tx.size := by omega
            have t0 : Y.cell? ⟨Bv, 0, none⟩ = some (.string tx) := KVY.out.cell (k := 0) rfl
            have p0 : Y.cell? ⟨Bp, 0, none⟩ = some (.int .i64 fn) := KP.out.cell (k := 0) rfl
            have p1 : Y.cell? ⟨Bp, 1, none⟩ = some (.int .i64 tn) := KP.out.cell (k := 1) rfl
            clear hnw hct hkp kp k7 k10 hseq2 h02
            gi_wp2_with fail
            refine ⟨trivial, ?_⟩
            with_reducible refine (CallsIn.inRound l2 (CallsIn.inRound l' (callsIn_wide.2 (hF2.out _)))).mono ?_
            rintro e W7 ⟨rfl, hb7⟩
            obtain ⟨κ, hκe⟩ : ∃ κ, κ = foldB (tx.extract fn tn) := ⟨_, rfl⟩
            have hκ : κ.size ≤ maxLen := by
              rw [hκe]
              have := fold_size (tx.extract fn tn) (by rw [ByteArray.size_extract]; omega)
              unfold maxLen; omega
            rw [← hκe]
            have HKE := hid hκe
            clear hκe t0 p0 p1 tb0 cb1 hF2
            obtain ⟨No, hNo⟩ : ∃ No : Nat → Prop, No = fun q => F2 q ∨ (∃ c ∈ [(b5 + 1, num + qs.length), (b10, qs.length)], c.1 = q) ∨ (S' q ∨ q = Bp) := ⟨_, rfl⟩
            have n1 : Hid (∀ q, No q → F2 q ∨ (∃ c ∈ [(b5 + 1, num + qs.length), (b10, qs.length)], c.1 = q) ∨ (S' q ∨ q = Bp)) := hid (fun q h => by rw [hNo] at h; exact h)
            have n2 : Hid (∀ q, F2 q ∨ (∃ c ∈ [(b5 + 1, num + qs.length), (b10, qs.length)], c.1 = q) ∨ (S' q ∨ q = Bp) → No q) := hid (fun q h => by rw [hNo]; exact h)
            have hnw7 : NwAt W7 ⟨M + 2, M + 1, M, M + 1, pa, pc⟩ n No E2 E2 (.slice ah E2.length ch) ov := by
              have h := HNW.out
              rw [← hNo] at h
              exact h.keep (Kept.of_all hb7 (fun _ => True)) (fun _ _ => trivial) (fun q h => .inl h)
            clear hNo
            have nB : Hid (No Bv ∧ No Bi ∧ No b5 ∧ No b10 ∧ No (b5 + 1) ∧ No Bp) := hid ⟨n2.out _ (.inl (g2.out _ (.inr (.inr (.inr (.inl rfl)))))), n2.out _ (.inl (g2.out _ (.inr (.inr (.inl rfl))))), n2.out _ (.inl (g2.out _ (.inl (f2.out _ (.inr (.inr (.inl rfl))))))), n2.out _ (.inr (.inl ⟨(b10, qs.length), by simp, rfl⟩)), n2.out _ (.inr (.inl ⟨_, List.mem_cons_self .., rfl⟩)), n2.out _ (.inr (.inr (.inr rfl)))⟩
            have nS : Hid (∀ q, S' q → No q) := hid (fun q h => n2.out _ (.inr (.inr (.inl h))))
            have nF : Hid (∀ q, F2 q → No q) := hid (fun q h => n2.out _ (.inl h))
            have KV7 := hid (KVY.out.low hb7)
            have KI7 := hid (KIY.out.low hb7)
            have K57 := hid (K5Y.out.low hb7)
            have K77 := hid (K7Y.out.low hb7)
            have K107 := hid (K10Y.out.low hb7)
            have KP7 := hid (KP.out.low hb7)
            have HB7 := hid hb7
            have HNW7 := hid hnw7
            obtain ⟨v0, hrun, hv0, _⟩ := hnw7.gr.look (by unfold maxLen; omega) κ hκ
            have hrun : (Instr.lookup 105 (.map (some M)) (.string κ) false).run Tryz.prog W7 = .ok v0 W7 := hrun
            obtain ⟨ga, gg, gc, rfl, _, _⟩ := grv_sl hv0
            obtain ⟨gl, hgl⟩ : ∃ gl, gl = (grp E2 κ).length := ⟨_, rfl⟩
            rw [← hgl] at hrun
            clear hv0 hgl
            obtain ⟨e, he⟩ : ∃ e : En, e = ⟨⟨k, xi, qs.length, num + qs.length, vf + fn, vf + tn⟩, κ⟩ := ⟨_, rfl⟩
            have hek : e.k = κ := by rw [he]
            have hκ2 : e.k.size ≤ maxLen := by rw [hek]; exact hκ
            rw [← hek] at hrun
            have HRUN := hid hrun
            obtain ⟨T, hT⟩ : ∃ T : Nat → Prop, T = fun g => Value.ownBlock (.slice ga gl gc) ≠ some g := ⟨_, rfl⟩
            have hCl : C.ClsK T W7 (H19 W7 ⟨M + 2, M + 1, M, M + 1, pa, pc⟩ n No E2 (.slice ah E2.length ch) ov e (.slice ga gl gc)) := by rw [hT]; exact H19.cls _ _ _ _ _ _ _ _ _
            have hap := (hnw7.group e hκ2 hrun).2.1
            have hTt : T (M + 2) = True := eq_true (by rw [hT]; exact fun e0 => (hap _ e0).2.1 rfl)
            have hTc : T (M + 1) = True := eq_true (by rw [hT]; exact fun e0 => (hap _ e0).2.2.1 rfl)
            have hTm : Hid (Value.ownBlock (.slice ga gl gc) ≠ some M) := hid (fun e0 => (hap _ e0).2.2.2.1 rfl)
            have HAP := hid (fun q (hq : No q) (e0 : Value.ownBlock (.slice ga gl gc) = some q) => (hap q e0).1 hq)
            have h00 := H19.start hnw7 e (.slice ga gl gc)
            have tb7 : W7.cell? ⟨M + 2, 0, none⟩ = some (.pointer (some ⟨M + 1, 0, none⟩)) := hnw7.tbk.cell (k := 0) rfl
            have cb1 : W7.cell? ⟨M + 1, 1, none⟩ = some (.slice ah E2.length ch) := hnw7.cbk.cell (k := 1) rfl
            have cb4 : W7.cell? ⟨M + 1, 4, none⟩ = some (.map (some M)) := hnw7.cbk.cell (k := 4) rfl
            have HE := hid he
            have HEK := hid hek
            clear hb7 hnw7 hap hT he hrun
            rw [← hek] at hκ ⊢
            clear hek
            gi_wp2_with fail
            refine C.eff_tailIn 18 [(16, some 69), (17, some 70)] (H19 W7 ⟨M + 2, M + 1, M, M + 1, pa, pc⟩ n No E2 (.slice ah E2.length ch) ov e (.slice ga gl gc)) (fun _ _ _ => False) (by kernel_rfl) (C.WideF.round _ _ _) (by kernel_rfl) (by kernel_rfl) (by kernel_rfl) rfl h00 ?_
            simp only [List.take_succ_cons, List.take_zero, List.drop_succ_cons, List.drop_zero]
            iterate 10 (refine C.gk_step hCl (by kernel_rfl) (C.wit0 h00 (by kernel_rfl)) (fun K hK => ?_); go_simp; refine ⟨hK _ ?_⟩; clear hK K)
            refine C.ge_val (by kernel_rfl) (C.wit0 h00 (by kernel_rfl)) rfl (.slice ga gl gc) (fun x' w' hf hx => ?_) ?_
            · have hrun := HNW7.out.gr.look_same e.k hκ2 (hx.kept.block M HNW7.out.gr.lt.1 hTm.out) HRUN.out
              go_simp
            iterate 5 (refine C.gk_step hCl (by kernel_rfl) (C.wit0 h00 (by kernel_rfl)) (fun K hK => ?_); go_simp; refine ⟨hK _ ?_⟩; clear hK K)
            refine C.ge_eff (m := 0) (by kernel_rfl) rfl (C.wit0 h00 (by kernel_rfl)) (V0 W7 ⟨M + 2, M + 1, M, M + 1, pa, pc⟩ n No E2 (.slice ah E2.length ch) ov e (.slice ga gl gc)) ?_ ?_
            · intro x' w' hf hx0 hx
              refine ⟨.slice (some ⟨w'.heap.size, 0, none⟩) 1 1, w'.alloc (.cells #[.int .i64 E2.length] 3), .inl ?_, hx.v0 hf.1 hx0, hx.made hf.1 hx0⟩
              go_simp
            rintro u ⟨ge, rfl, w0', hw0'⟩
            refine C.ge_eff (m := 1) (by kernel_rfl) rfl ⟨_, w0', fit2 (by kernel_rfl) (by kernel_rfl) rfl, hw0'⟩ (fun u => True) ?_ ?_
            · intro x' w' hf hx0 hx
              have q0 := hf.2.2 0 _ rfl (by kernel_rfl)
              obtain ⟨u, w'', r1, r2⟩ := hx.grow hκ2 HRUN.out HNW7.out hf.1 q0 hx0 49
              exact ⟨u, w'', .inl (C.exec_append (.tmp 63) (.tmp 69) 49 rfl (vs := .slice ga gl gc) (vx := .slice (some ⟨ge, 0, none⟩) 1 1) (by go_simp) (by go_simp) r1), trivial, r2⟩
            rintro u -
            refine C.ge_nil ?_
            intro w8 hw8
            obtain ⟨w9', r1, hnw9, hk9⟩ := hw8.post _ rfl
            refine update_runIn rfl _ _ _ 105 rfl rfl rfl rfl r1 ?_
            have hkN : Kept No W7 w9' := hk9.mono (fun q _ hq => ⟨HAP.out q hq, fun e0 => HNW7.out.nm (e0 ▸ hq)⟩)
            have KV9 := hid (KV7.out.keep hkN nB.out.1)
            have KI9 := hid (KI7.out.keep hkN nB.out.2.1)
            have K59 := hid (K57.out.keep hkN nB.out.2.2.1)
            have K109 := hid (K107.out.keep hkN nB.out.2.2.2.1)
            have K79 := hid (K77.out.keep hkN nB.out.2.2.2.2.1)
            have KP9 := hid (KP7.out.keep hkN nB.out.2.2.2.2.2)
            have HKN := hid hkN
            have HNW9 := hid hnw9
            clear hw8 r1 hnw9 hk9 hkN h00 hCl hTt hTc tb7 cb1 cb4 hw0' KV7 KI7 K57 K107 K77 KP7
            have t4 : w9'.cell? ⟨Bv, 4, none⟩ = some (.int .i64 vf) := KV9.out.cell (k := 4) rfl
            have p0 : w9'.cell? ⟨Bp, 0, none⟩ = some (.int .i64 fn) := KP9.out.cell (k := 0) rfl
            have p1 : w9'.cell? ⟨Bp, 1, none⟩ = some (.int .i64 tn) := KP9.out.cell (k := 1) rfl
            have hwf1 : IntKind.i64.wrap (vf + fn) = vf + fn := IntWalk.i64_in _ (by omega)
            have hwf2 : IntKind.i64.wrap (vf + tn) = vf + tn := IntWalk.i64_in _ (by omega)
            gi_wp2_with fail
            obtain ⟨W10, hW10⟩ : ∃ W10, w9'.alloc (.cells #[.int .i64 (vf + fn), .int .i64 (vf + tn)] 37) = W10 := ⟨_, rfl⟩
            have kS := Blk.new w9' 37 #[.int .i64 (vf + fn), .int .i64 (vf + tn)]
            have hB10 : Below w9'.heap.size w9' W10 := by rw [← hW10]; exact (Below.refl _ _).alloc (Nat.le_refl _) _
            have hsW : W10.heap.size = w9'.heap.size + 1 := by rw [← hW10, World.size_alloc]
            rw [show w9'.alloc (.cells #[.int .i64 (vf + fn), .int .i64 (vf + tn)] 37) = W10 from hW10] at kS ⊢
            obtain ⟨No3, hNo3⟩ : ∃ No3 : Nat → Prop, No3 = fun q => No q ∨ q = w9'.heap.size := ⟨_, rfl⟩
            have m1 : Hid (∀ q, No3 q → No q ∨ q = w9'.heap.size) := hid (fun q h => by rw [hNo3] at h; exact h)
            have m2 : Hid (∀ q, No q ∨ q = w9'.heap.size → No3 q) := hid (fun q h => by rw [hNo3]; exact h)
            have hnw10 : NwAt W10 ⟨M + 2, M + 1, M, M + 1, pa, pc⟩ n No3 E2 (E2 ++ [e]) (.slice ah E2.length ch) ov := HNW9.out.keep (Kept.of_all hB10 (fun _ => True)) (fun _ _ => trivial) (fun q h => (m1.out q h).imp id (fun h => ⟨by omega, by omega⟩))
            have KI10 := hid (KI9.out.low hB10)
            have K510 := hid (K59.out.low hB10)
            have K1010 := hid (K109.out.low hB10)
            have K710 := hid (K79.out.low hB10)
            have HNW10 := hid hnw10
            have HB10 := hid hB10
            have KS := hid kS
            have HSW := hid hsW
            obtain ⟨T3, hT3⟩ : ∃ T3 : Nat → Prop, T3 = fun g => Value.ownBlock (.slice ah E2.length ch) ≠ some g ∧ ov.ownBlock ≠ some g ∧ g ≠ M + 1 := ⟨_, rfl⟩
            have hCl : C.ClsK T3 W10 (H21 W10 ⟨M + 2, M + 1, M, M + 1, pa, pc⟩ n E2 (.slice ah E2.length ch) ov e) := by rw [hT3]; exact H21.cls W10 ⟨M + 2, M + 1, M, M + 1, pa, pc⟩ n E2 (.slice ah E2.length ch) ov e
            have tN : ∀ q, No3 q → T3 q := fun q hq => by
              rw [hT3]
              exact ⟨fun e0 => hnw10.nh q e0 hq, fun e0 => hnw10.nO q e0 hq, fun e0 => hnw10.nc (e0 ▸ hq)⟩
            have a1 : T3 (M + 2) = True := eq_true (by rw [hT3]; exact ⟨fun e0 => (hnw10.hap e0).1 rfl, fun e0 => (hnw10.oap e0).1 rfl, by omega⟩)
            have a2 : T3 b5 = True := eq_true (tN _ (m2.out _ (.inl nB.out.2.2.1)))
            have a3 : T3 Bi = True := eq_true (tN _ (m2.out _ (.inl nB.out.2.1)))
            have a4 : T3 b10 = True := eq_true (tN _ (m2.out _ (.inl nB.out.2.2.2.1)))
            have a5 : T3 (b5 + 1) = True := eq_true (tN _ (m2.out _ (.inl nB.out.2.2.2.2.1)))
            obtain ⟨bs, hbs⟩ : ∃ bs, bs = w9'.heap.size := ⟨_, rfl⟩
            have HBS := hid hbs
            rw [← hbs] at kS m1 m2 HSW KS ⊢
            have a6 : T3 bs = True := eq_true (tN _ (m2.out _ (.inr rfl)))
            have tb7 : W10.cell? ⟨M + 2, 0, none⟩ = some (.pointer (some ⟨M + 1, 0, none⟩)) := hnw10.tbk.cell (k := 0) rfl
            have d5 : W10.cell? ⟨b5, 0, none⟩ = some (.int .i64 k) := K510.out.cell (k := 0) rfl
            have di : W10.cell? ⟨Bi, 0, none⟩ = some (.int .i64 xi) := KI10.out.cell (k := 0) rfl
            have d10 : W10.cell? ⟨b10, 0, none⟩ = some (.int .i64 qs.length) := K1010.out.cell (k := 0) rfl
            have d7 : W10.cell? ⟨b5 + 1, 0, none⟩ = some (.int .i64 ((num + qs.length : Nat) : Int)) := K710.out.cell (k := 0) rfl
            have ds0 : W10.cell? ⟨bs, 0, none⟩ = some (.int .i64 (vf + fn)) := kS.cell (k := 0) rfl
            have ds1 : W10.cell? ⟨bs, 1, none⟩ = some (.int .i64 (vf + tn)) := kS.cell (k := 1) rfl
            have hcl : Hid (e.h.cells = #[.int .i64 k, .int .i64 xi, .int .i64 qs.length, .int .i64 ((num + qs.length : Nat) : Int), .int .i64 (vf + fn), .int .i64 (vf + tn)]) := hid (by rw [HE.out])
            have h00 := H21.start hnw10 e
            clear hnw10 hNo3 hT3 tN hbs hsW hB10 kS t4 p0 p1 hwf1 hwf2 KV9 KP9
            refine Z.eff_tailIn 26 [(5, some 89), (12, some 96), (13, some 97), (19, some 103), (20, some 104), (23, none)] (H21 W10 ⟨M + 2, M + 1, M, M + 1, pa, pc⟩ n E2 (.slice ah E2.length ch) ov e) (fun _ _ _ => False) (by kernel_rfl) (C.WideF.round _ _ _) (by kernel_rfl) (by kernel_rfl) (by kernel_rfl) rfl h00 ?_
            simp only [List.take_succ_cons, List.take_zero, List.drop_succ_cons, List.drop_zero]
            iterate 5 (refine Z.gk_step hCl (by kernel_rfl) (C.wit0 h00 (by kernel_rfl)) (fun K hK => ?_); go_simp; refine ⟨hK _ ?_⟩; clear hK K)
            refine Z.ge_eff (m := 0) (by kernel_rfl) rfl (C.wit0 h00 (by kernel_rfl)) (fun u => u = .slice ah E2.length ch) ?_ ?_
            · intro x' w' hf hx0 hx
              obtain ⟨c1, c2⟩ := hx.read hf.1 hx0
              refine ⟨.slice ah E2.length ch, w', .inl ?_, rfl, c2⟩
              go_simp
            rintro u rfl
            iterate 6 (refine Z.gk_step hCl (by kernel_rfl) (C.wit0 h00 (by kernel_rfl)) (fun K hK => ?_); go_simp; refine ⟨hK _ ?_⟩; clear hK K)
            refine Z.ge_eff (m := 1) (by kernel_rfl) rfl (C.wit0 h00 (by kernel_rfl)) (V1 W10 ⟨M + 2, M + 1, M, M + 1, pa, pc⟩ n E2 (.slice ah E2.length ch) ov e) ?_ ?_
            · intro x' w' hf hx0 hx
              refine ⟨.slice (some ⟨w'.heap.size, 0, none⟩) 1 1, w'.alloc (.cells e.h.cells 39), .inl ?_, hx.v1 hf.1 hx0, hx.made1 hf.1 hx0⟩
              rw [hcl.out]
              go_simp
            rintro u ⟨⟨ge1, rfl⟩, hW1⟩
            refine Z.ge_eff (m := 2) (by kernel_rfl) rfl ?_ (V2 W10 ⟨M + 2, M + 1, M, M + 1, pa, pc⟩ n E2 (.slice ah E2.length ch) ov e) ?_ ?_
            · obtain ⟨X1, w1', l1, ⟨p0, p1, p2⟩, hx1⟩ := hW1.ex
              refine ⟨X1, w1', C.fit_at l1 2 (by kernel_rfl) p2 [0, 1] (by kernel_rfl) (fun m hm p hp => ?_), hx1⟩
              rw [List.mem_cons, List.mem_singleton] at hm
              rcases hm with rfl | rfl
              · obtain rfl : (5, some 89) = p := by simpa using hp
                exact p0
              · obtain rfl : (12, some 96) = p := by simpa using hp
                exact p1
            · intro x' w' hf hx2 hx
              have q0 : x'[0]? = some (some (.slice ah E2.length ch)) := hf.2.2 0 _ rfl (by kernel_rfl)
              have q1 : x'[1]? = some (some (.slice (some ⟨ge1, 0, none⟩) 1 1)) := hf.2.2 1 _ rfl (by kernel_rfl)
              obtain ⟨u, w'', r1, hs, hfin⟩ := hx.grow2 HNW10.out hf.1 q0 q1 hx2 59
              exact ⟨u, w'', .inl (C.exec_append (.tmp 89) (.tmp 96) 59 rfl (vs := .slice ah E2.length ch) (vx := .slice (some ⟨ge1, 0, none⟩) 1 1) (by go_simp) (by go_simp) r1), hx.v2 hf.1 q0 hx2 hs hfin, hfin⟩
            rintro u ⟨⟨ge2, ce2, rfl⟩, hW2⟩
            iterate 3 (refine Z.gk_step hCl (by kernel_rfl) (C.wit0 h00 (by kernel_rfl)) (fun K hK => ?_); go_simp; refine ⟨hK _ ?_⟩; clear hK K)
            refine Z.ge_val (by kernel_rfl) (C.wit0 h00 (by kernel_rfl)) rfl ov (fun x' w' hf hx => ?_) ?_
            · have := hx.of2 hf.1
              go_simp
            iterate 1 (refine Z.gk_step hCl (by kernel_rfl) (C.wit0 h00 (by kernel_rfl)) (fun K hK => ?_); go_simp; refine ⟨hK _ ?_⟩; clear hK K)
            refine Z.ge_eff (m := 3) (by kernel_rfl) rfl (C.wit0 h00 (by kernel_rfl)) (V3 W10 ⟨M + 2, M + 1, M, M + 1, pa, pc⟩ n E2 (.slice ah E2.length ch) ov e) ?_ ?_
            · intro x' w' hf hx0 hx
              refine ⟨.slice (some ⟨w'.heap.size, 0, none⟩) 1 1, w'.alloc (.cells #[.string e.k] 9), .inl ?_, hx.v3 hf.1 hx0, hx.made3 hf.1 hx0⟩
              go_simp
            rintro u ⟨⟨ge3, rfl⟩, hW3⟩
            refine Z.ge_eff2 (m := 4) (by kernel_rfl) rfl (fun u => True) ?_ ?_
            · intro x' w' hf hx4 hx
              have q3 : x'[3]? = some (some (.slice (some ⟨ge3, 0, none⟩) 1 1)) := hf.2.2 3 _ rfl (by kernel_rfl)
              obtain ⟨u, w'', r1, hs, hfin⟩ := hx.grow4 HNW10.out hf.1 q3 hx4 22
              exact ⟨u, w'', .inl (C.exec_append (.tmp 101) (.tmp 103) 22 rfl (vs := ov) (vx := .slice (some ⟨ge3, 0, none⟩) 1 1) (by go_simp) (by go_simp) r1), trivial, hfin⟩
            rintro u4 -
            refine Z.gk_step2 hCl [0, 1, 2, 4] (by kernel_rfl) (by kernel_rfl) (by kernel_rfl) (by kernel_rfl) (fun a' hn w' hw' => (hn w' hw').elim) (fun K hK => ?_)
            go_simp
            refine ⟨hK _ ?_⟩
            clear hK K
            refine Z.gk_step2 hCl [0, 1, 2, 4] (by kernel_rfl) (by kernel_rfl) (by kernel_rfl) (by kernel_rfl) (fun a' hn w' hw' => (hn w' hw').elim) (fun K hK => ?_)
            go_simp
            refine ⟨hK _ ?_⟩
            clear hK K
            refine Z.ge_eff2 (m := 5) (by kernel_rfl) rfl (fun u => u = undef) ?_ ?_
            · intro x' w' hf hx5 hx
              have q2 : x'[2]? = some (some (.slice (some ⟨ge2, 0, none⟩) (E2.length + 1) ce2)) := hf.2.2 2 _ rfl (by kernel_rfl)
              have kc := hx.c0 hx5
              have z1 : w'.frozen? ⟨M + 1, 1, none⟩ = false := kc.froz 1
              have y1 : w'.cell? ⟨M + 1, 1, none⟩ = some (.slice ah E2.length ch) := kc.cell (k := 1) rfl
              refine ⟨undef, w'.setCell ⟨M + 1, 1, none⟩ (.slice (some ⟨ge2, 0, none⟩) (E2.length + 1) ce2), .inr ⟨?_, rfl⟩, rfl, hx.put5 HNW10.out hf.1 (hx.x0 hf.1 q2) q2 hx5⟩
              clear kc q2 hx hf hx5
              go_simp
            intro u hu
            obtain rfl : u = undef := hu.elim id id
            refine Z.gk_step2 hCl [0, 1, 2, 3, 4, 5] (by kernel_rfl) (by kernel_rfl) (by kernel_rfl) (by kernel_rfl) (fun a' hn w' hw' => (hn w' hw').elim) (fun K hK => ?_)
            go_simp
            refine ⟨hK _ ?_⟩
            clear hK K
            refine Z.gk_step2 hCl [0, 1, 2, 3, 4, 5] (by kernel_rfl) (by kernel_rfl) (by kernel_rfl) (by kernel_rfl) (fun a' hn w' hw' => (hn w' hw').elim) (fun K hK => ?_)
            go_simp
            refine ⟨hK _ ?_⟩
            clear hK K
            refine Z.ge_nil ?_
            intro w8 hw8
            obtain ⟨ho4, _⟩ := hw8.o1 _ rfl
            obtain ⟨ge4, ce4, e4⟩ := ownsRow_succ ho4
            have e4 : u4 = .slice (some ⟨ge4, 0, none⟩) (E2.length + 1) ce4 := e4
            subst e4
            have hlt : E2.length + 1 ≤ 32768 := by have := HNW7.out.len; have := HNF.out; omega
            obtain ⟨hnw12, hk12, kb12⟩ : NwAt (w8.setCell ⟨M + 1, 2, none⟩ (.slice (some ⟨ge4, 0, none⟩) (E2.length + 1) ce4)) ⟨M + 2, M + 1, M, M + 1, pa, pc⟩ n No3 (E2 ++ [e]) (E2 ++ [e]) (.slice (some ⟨ge2, 0, none⟩) (E2.length + 1) ce2) (.slice (some ⟨ge4, 0, none⟩) (E2.length + 1) ce4) ∧ Kept (fun g => No3 g) W10 (w8.setCell ⟨M + 1, 2, none⟩ (.slice (some ⟨ge4, 0, none⟩) (E2.length + 1) ce4)) ∧ Blk w8 (M + 1) 107 #[.slice pa n pc, .slice (some ⟨ge2, 0, none⟩) (E2.length + 1) ce2, ov, .slice none 0 0, .map (some M)] := hw8.fin HNW10.out hlt
            have z2 : w8.frozen? ⟨M + 1, 2, none⟩ = false := kb12.froz 2
            have y2 : w8.cell? ⟨M + 1, 2, none⟩ = some ov := kb12.cell (k := 2) rfl
            have KN12 := hid hk12
            have HNW12 := hid hnw12
            clear hw8 ho4 hnw12 hk12 kb12 hW1 hW2 hW3 h00 hCl a1 a2 a3 a4 a5 a6 tb7 d5 di d10 d7 ds0 ds1
            gi_wp2_with fail
            obtain ⟨W12, hW12⟩ : ∃ W12, w8.setCell ⟨M + 1, 2, none⟩ (.slice (some ⟨ge4, 0, none⟩) (E2.length + 1) ce4) = W12 := ⟨_, rfl⟩
            rw [hW12] at HNW12 KN12 ⊢
            have k10 := K1010.out.keep KN12.out (m2.out _ (.inl nB.out.2.2.2.1))
            have k7 := K710.out.keep KN12.out (m2.out _ (.inl nB.out.2.2.2.2.1))
            have h00 := H22.start k10
            have h01 := H22.start1 k10
            obtain ⟨T4, hT4⟩ : ∃ T4 : Nat → Prop, T4 = fun q => q ≠ b10 := ⟨_, rfl⟩
            have hCl : C.ClsK T4 W12 (H22 W12 b10 qs.length) := by rw [hT4]; exact H22.cls _ _ _
            have a1 : T4 (b5 + 1) = True := eq_true (by rw [hT4]; show b5 + 1 ≠ b10; omega)
            have d7 : W12.cell? ⟨b5 + 1, 0, none⟩ = some (.int .i64 ((num + qs.length : Nat) : Int)) := k7.cell (k := 0) rfl
            have hj0 : num + qs.length < 40000 := by have := HLE2.out; have := HLE1.out; omega
            obtain ⟨j, hj⟩ : ∃ j, j = num + qs.length := ⟨_, rfl⟩
            obtain ⟨ql, hql⟩ : ∃ ql, ql = qs.length := ⟨_, rfl⟩
            have HJ := hid hj
            have HQL := hid hql
            rw [← hj] at d7 hj0 k7
            rw [← hql] at h00 h01 hCl
            have hqj : ql < 40000 := by omega
            have w1 : IntKind.i64.wrap ((j : Int) + 1) = ((j + 1 : Nat) : Int) := by rw [IntWalk.i64_in _ (by omega)]; omega
            have w2 : IntKind.i64.wrap ((ql : Int) + 1) = ((ql + 1 : Nat) : Int) := by rw [IntWalk.i64_in _ (by omega)]; omega
            have HK7 := hid k7
            clear hT4 k10 k7 hj hql z2 y2 hW12
            refine C.eff_tailIn 5 [(0, some 109), (4, none)] (H22 W12 b10 ql) (fun _ _ _ => False) (by kernel_rfl) (C.WideF.round _ _ _) (by kernel_rfl) (by kernel_rfl) (by kernel_rfl) rfl h00 ?_
            simp only [List.take_succ_cons, List.take_zero, List.drop_succ_cons, List.drop_zero]
            refine C.ge_eff (m := 0) (by kernel_rfl) rfl (C.wit0 h00 (by kernel_rfl)) (fun u => u = .int .i64 ql) ?_ ?_
            · intro x' w' hf hx0 hx
              obtain ⟨c1, c2⟩ := hx.read hf.1 hx0
              refine ⟨.int .i64 ql, w', .inl ?_, rfl, c2⟩
              go_simp
            rintro u rfl
            refine C.gk_step hCl (by kernel_rfl) ⟨_, _, C.fit_non rfl (by kernel_rfl) [0] (by kernel_rfl) (fun m hm p hp => ?_), h01⟩ (fun K hK => ?_)
            · rw [List.mem_singleton] at hm
              subst hm
              obtain rfl : (0, some 109) = p := by simpa using hp
              rfl
            go_simp
            refine ⟨hK _ ?_⟩
            clear hK K
            iterate 2 (refine C.gk_step hCl (by kernel_rfl) (C.wit0 h00 (by kernel_rfl)) (fun K hK => ?_); go_simp; refine ⟨hK _ ?_⟩; clear hK K)
            refine C.ge_eff (m := 1) (by kernel_rfl) rfl ⟨_, _, C.fit_at rfl 1 (by kernel_rfl) rfl [0] (by kernel_rfl) (fun m hm p hp => ?_), h01⟩ (fun u => u = undef) ?_ ?_
            · rw [List.mem_singleton] at hm
              subst hm
              obtain rfl : (0, some 109) = p := by simpa using hp
              rfl
            · intro x' w' hf hx1 hx
              have q0 : x'[0]? = some (some (.int .i64 ql)) := hf.2.2 0 _ rfl (by kernel_rfl)
              have kc := hx.c0 hx1
              have z1 : w'.frozen? ⟨b10, 0, none⟩ = false := kc.froz 0
              have y1 : w'.cell? ⟨b10, 0, none⟩ = some (.int .i64 ql) := kc.cell (k := 0) rfl
              refine ⟨undef, w'.setCell ⟨b10, 0, none⟩ (.int .i64 ((ql + 1 : Nat) : Int)), .inr ⟨?_, rfl⟩, rfl, hx.put hf.1 q0 hx1⟩
              clear kc q0 hx hf hx1
              go_simp
            rintro u rfl
            refine C.ge_nil ?_
            intro w13 hw13
            have hk13 := hw13.kept
            have k10 := hw13.c1 _ rfl
            have k7 := HK7.out.keep hk13 (show b5 + 1 ≠ b10 by omega)
            have z7 : w13.frozen? ⟨b5 + 1, 0, none⟩ = false := k7.froz 0
            have y7 : w13.cell? ⟨b5 + 1, 0, none⟩ = some (.int .i64 j) := k7.cell (k := 0) rfl
            have K10F := hid (k10.keep (Kept.setCell (T := fun q => q = b10) w13 (p := ⟨b5 + 1, 0, none⟩) (fun (h : b5 + 1 = b10) => by omega) (.int .i64 ((j + 1 : Nat) : Int))) rfl)
            have K7F := hid (k7.upd 0 (.int .i64 ((j + 1 : Nat) : Int)) rfl)
            have HK13 := hid hk13
            clear hw13 hk13 k10 k7 h00 h01 hCl a1 d7 w1 w2
            gi_wp2_with fail
            rw [show ((j : Int) + 1) = ((j + 1 : Nat) : Int) by omega]
            obtain ⟨WF, hWF⟩ : ∃ WF, w13.setCell ⟨b5 + 1, 0, none⟩ (.int .i64 ((j + 1 : Nat) : Int)) = WF := ⟨_, rfl⟩
            have hKF : Kept (fun q => q ≠ b10 ∧ q ≠ b5 + 1) W12 WF := by rw [← hWF]; exact (HK13.out.mono (fun q _ h => h.1)).trans (Kept.setCell _ (fun h => h.2 rfl) _)
            rw [hWF] at K10F K7F ⊢
            have hKY : Kept No Y W12 := (Kept.of_all HB7.out _).trans (HKN.out.trans ((Kept.of_all HB10.out _).trans (KN12.out.mono (fun q _ h => m2.out q (.inl h)))))
            have hn10 : ∀ q, F2 q → q ≠ b10 ∧ q ≠ b5 + 1 := fun q h => by
              have := Y9.out
              rcases g1.out q h with h | h | h | h | h
              · rcases f1.out q h with h | h | h | h
                · exact ⟨by omega, by omega⟩
                · have := hdl.out q h; exact ⟨by omega, by omega⟩
                all_goals exact ⟨by omega, by omega⟩
              · have := HS5.out q h; have := HB10b.out; exact ⟨by omega, by omega⟩
              all_goals (have := HB10b.out; exact ⟨by omega, by omega⟩)
            have e1 : E1 ++ wdE k num xi v (qs ++ [⟨kd, (fn : Int), (tn : Int)⟩]) = E2 ++ [e] := by
              rw [hsn2.out, ← List.append_assoc, ← HE2.out, HE.out, HKE.out, HV0.out]
              rfl
            have e2 : (qs ++ [(⟨kd, (fn : Int), (tn : Int)⟩ : Tk)]).length = ql + 1 := by rw [List.length_append, List.length_singleton, HQL.out]
            show Kept _ _ _ ∧ StI _ _ _ _ _ _ _ _
            rw [e1, e2, show num + (ql + 1) = j + 1 by rw [HJ.out, HQL.out]; omega]
            refine ⟨(hKY.mono (fun q _ h => ?_)).trans (hKF.mono (fun q _ h => ?_)), ⟨_, _, HNW12.out.keep hKF (fun q hn => ⟨fun e0 => hn (m2.out q (.inl (e0 ▸ nB.out.2.2.2.1))), fun e0 => hn (m2.out q (.inl (e0 ▸ nB.out.2.2.2.2.1)))⟩) (fun q hq => .inl (m2.out q (.inl ?_)))⟩, fun c hc => ?_, HKP.out.trans ((hKY.mono (fun q _ h => nF.out q h)).trans (hKF.mono (fun q _ h => hn10 q h)))⟩
            · rcases h with h | h
              · exact nF.out q (g2.out q (.inr (.inr (.inr (.inr h)))))
              · exact nS.out q h
            · rcases h with h | h
              · exact ⟨by omega, by omega⟩
              · have := (HS7.out q h).1; exact ⟨by omega, by omega⟩
            · rcases hq with h | ⟨c, hc, rfl⟩ | h
              · exact nF.out q h
              · rw [List.mem_cons, List.mem_singleton] at hc
                rcases hc with rfl | rfl
                · exact nB.out.2.2.2.2.1
                · exact nB.out.2.2.2.1
              · exact nS.out q h
            · rw [List.mem_cons, List.mem_singleton] at hc
              rcases hc with rfl | rfl
              · exact K7F.out
              · exact K10F.out
        case done2 =>
          rintro W9 hW9 hJ9
          have hq : Hid (StI w9 X n F1 [(b5 + 1, (pmE k 0 (pre ++ [(xi, ⟨tx, va, vb, vc, vf, vt⟩)])).length)] (E0 ++ pmE k 0 (pre ++ [(xi, ⟨tx, va, vb, vc, vf, vt⟩)])) S W9) := hid (by
            obtain ⟨hv, ov, hnw⟩ := hJ9.nw
            have e1 : E0 ++ pmE k 0 (pre ++ [(xi, ⟨tx, va, vb, vc, vf, vt⟩)]) = E1 ++ wdE k num xi v (wordsL tx) := by
              rw [hsn.out, ← List.append_assoc, ← HE1e.out, HV0.out]
              try dsimp only
              rw [Nat.zero_add, ← HNUM.out]
            have e2 : (pmE k 0 (pre ++ [(xi, ⟨tx, va, vb, vc, vf, vt⟩)])).length = num + (wordsL tx).length := by
              rw [hsn.out, List.length_append, wdE_len, ← HNUM.out]
            rw [e1, e2]
            refine ⟨⟨hv, ov, hnw.keep (Kept.refl (fun _ => True) _) (fun _ _ => trivial) (fun q hq => .inl ?_)⟩, fun c hc => ?_, ?_⟩
            · rcases hq with h | ⟨c, hc, rfl⟩ | h
              · exact .inl (g2.out q (.inl h))
              · rw [List.mem_singleton] at hc; subst hc; exact .inr (.inl ⟨_, List.mem_cons_self .., rfl⟩)
              · exact .inl (g2.out q (.inr (.inl h)))
            · rw [List.mem_singleton] at hc; subst hc; exact hJ9.ct _ (List.mem_cons_self ..)
            · exact HK9.out.trans (hJ9.kp.mono (fun q _ h => g2.out q (.inl h))))
          have hK : Hid (Kept (fun q => (q = b5 + 2 ∨ q = r.pb ∨ q = r.g) ∨ S q) W5 W9) := hid (HK6.out.trans (hJ9.kp.mono (fun q _ h => by
            rcases h with (h | h | h) | h
            · exact g2.out q (.inl (f2.out q (.inr (.inr (.inr h)))))
            · exact g2.out q (.inl (f2.out q (.inl (by omega))))
            · exact g2.out q (.inl (f2.out q (.inl (by omega))))
            · exact g2.out q (.inr (.inl h)))))
          subst hTm2 hD2
          clear hJ9 hseq2 h02
          gi_wp2_with fail
          exact ⟨hK.out, hq.out⟩
        case stop2 =>
          rintro c qs W9 hW9 hpre2 hE9
          obtain ⟨rfl, r2, r3, kp9, big⟩ := hE9
          have hq : Hid (ErrI w9 F1 N rs .ret W9) := hid ⟨rfl, r2, r3, (HK9.out.mono (fun q _ h => h.1)).trans (kp9.mono (fun q _ h => ⟨g2.out q (.inl h.1), h.2⟩)), big⟩
          have hK : Hid (Kept (fun q => (q = b5 + 2 ∨ q = r.pb ∨ q = r.g) ∨ S q) W5 W9) := hid (HK6.out.trans (kp9.mono (fun q _ h => by
            have := Y9.out
            rcases h with (h | h | h) | h
            · exact ⟨g2.out q (.inl (f2.out q (.inr (.inr (.inr h))))), by omega, by omega⟩
            · exact ⟨g2.out q (.inl (f2.out q (.inl (by omega)))), by omega, by omega⟩
            · exact ⟨g2.out q (.inl (f2.out q (.inl (by omega)))), by omega, by omega⟩
            · have := HS5.out q h
              exact ⟨g2.out q (.inr (.inl h)), by omega, by omega⟩)))
          subst hTm2 hD2
          clear r2 r3 kp9 hseq2 h02
          gi_wp2_with fail
          exact ⟨hK.out, hq.out⟩
      case done =>
        rintro Dk W9 hDk hJ9 hK
        have hDl := at_lt hK
        have hO9 : Hid (OutI w5 M X n rs (k + 1) (Dk :: Ds) W9) := hid (by
          obtain ⟨hv, ov, hnw⟩ := hJ9.nw
          have hyy := Y9.out
          refine ⟨⟨hv, ov, ?_⟩, ?_, ?_, ?_, by omega⟩
          · rw [hE1.out, ← HE0.out]
            refine hnw.keep (Kept.refl (fun _ => True) _) (fun _ _ => trivial) (fun q hq => .inl ?_)
            rcases hq with h | h
            · exact .inl (f2.out q (.inl h))
            · rcases List.mem_cons.1 h with rfl | h
              · exact .inr (.inr rfl)
              · exact .inl (f2.out q (.inr (.inl h)))
          · exact HI.out.low.trans ((HB9w.out.mono (by omega)).trans (hJ9.kp.below (by omega) (fun q hq => f2.out q (.inl hq))))
          · exact List.nodup_cons.2 ⟨fun h => by have := hdl.out _ h; omega, HI.out.nd⟩
          · intro D hD
            rcases List.mem_cons.1 hD with rfl | hD
            · exact ⟨hK, by omega⟩
            · refine ⟨hJ9.kp.obj ?_ (f2.out D (.inr (.inl hD))), (hdl.out D hD).1⟩
              have h1 := (HI.out.mks D hD).1
              exact (HB9w.out.block D (at_lt h1)).trans h1)
        clear hJ9 hK hseq
        subst hTm hD
        gi_wp2_with fail
        rw [show ((k : Int) + 1) = ((k + 1 : Nat) : Int) by omega]
        refine ⟨⟨k + 1, Dk :: Ds, _, _, _, _, _, _, _, _, _, _, _, _, _, _, _, _, _, _, _, _, _, _, _, _, _, _, _, _, _, _, _, _, _, _, _, _, _, _, _, _, _, _, _, _, _, _, _, _, _, _, _, _, _, _, _, _, _, _, _, _, _, _, _, _, _, _, _, _, _, _, _, _, _, _, _, _, _, _, _, _, _, _, _, _, _, _, _, _, _, _, _, _, _, _, _, _, _, _, _, _, _, _, _, _, _, _, _, _, _, _, _, _, _, _, _, _, _, _, rfl, by omega, hO9⟩, ?_⟩
        simp [RowKit.intOf]
        omega
      case stop =>
        rintro Dk c pre W9 hDk hpre hE9 hK
        obtain ⟨rfl, r2, r3, kp9, big⟩ := hE9
        have hDl := at_lt hK
        have hnd : (Dk :: Ds).Nodup := List.nodup_cons.2 ⟨fun h => by have := hdl.out _ h; have := Y9.out; omega, HI.out.nd⟩
        have hmk : ∀ D ∈ Dk :: Ds, W9.heap[D]? = some (.deferred (some [])) := fun D hD => by
          rcases List.mem_cons.1 hD with rfl | hD
          · exact hK
          · have h1 := (HI.out.mks D hD).1
            have h2 := (hdl.out D hD).1
            exact kp9.obj ((HB9w.out.block D (at_lt h1)).trans h1) ⟨f2.out D (.inr (.inl hD)), by omega, by omega⟩
        have hlow : Below N w W9 := (hB9.out.trans (HI.out.low.mono (by omega))).trans ((HB9w.out.mono (by omega)).trans (kp9.below (by have := Y9.out; omega) (fun q hq => ⟨f2.out q (.inl (by omega)), by omega, by omega⟩)))
        have HR2 := hid r2
        have HR3 := hid r3
        have HLO := hid hlow
        have HND := hid hnd
        have HMK := hid hmk
        have HBG := hid big
        clear r2 r3 kp9 hlow hnd hmk hK hseq big
        subst hTm hD
        gi_wp2_with fail
        refine leaves_marks (Dk :: Ds) W9 HND.out HMK.out (fun w' hw' => ?_)
        have hnN : N ∉ Dk :: Ds := fun h => by
          rcases List.mem_cons.1 h with h | h
          · omega
          · have := hdl.out _ h; omega
        have hnN1 : N + 1 ∉ Dk :: Ds := fun h => by
          rcases List.mem_cons.1 h with h | h
          · omega
          · have := hdl.out _ h; omega
        have q0 : w'.cell? ⟨N, 0, none⟩ = some (.pointer none) := (HR2.out.keep hw' hnN).cell (k := 0) rfl
        have q1 : w'.cell? ⟨N + 1, 0, none⟩ = some (.int .i64 3) := (HR3.out.keep hw' hnN1).cell (k := 0) rfl
        refine ⟨.tuple #[.pointer none, .int .i64 3], by simp [results, Tryz.results47, go_sem, q0, q1], ?_⟩
        refine ⟨?_, .inl ⟨rfl, HBG.out⟩⟩
        rw [← HNN.out]
        exact HLO.out.trans (hw'.below (by have := HLO.out.size; have := HNN.out; omega) (fun q hq h => by
          rcases List.mem_cons.1 h with h | h
          · omega
          · have := hdl.out _ h; omega))
    · obtain rfl : k = n := by omega
      have hX := HX.out
      subst hX
      obtain ⟨⟨hv, ov, hnw⟩, hlow, hnd, hmk, hsz⟩ := hI.out
      have hall : (plD rs).take k = plD rs := List.take_of_length_le (by show (rs.map _).length ≤ k; rw [List.length_map, HLN.out]; exact Nat.le_refl _)
      rw [hall] at hnw
      obtain ⟨E, hE⟩ : ∃ E, E = alE 0 (plD rs) := ⟨_, rfl⟩
      rw [← hE] at hnw
      have HEE := hid hE
      have HNW := hid hnw
      have HLOW := hid hlow
      have HND := hid hnd
      have HMK := hid hmk
      have HSZ := hid hsz
      have hkI : ¬ (k : Int) < k := by omega
      have hkd : decide ((k : Int) < k) = false := decide_eq_false hkI
      have tb0 : wr.cell? ⟨M + 2, 0, none⟩ = some (.pointer (some ⟨M + 1, 0, none⟩)) := hnw.tbk.cell (k := 0) rfl
      have cb4 : wr.cell? ⟨M + 1, 4, none⟩ = some (.map (some M)) := hnw.cbk.cell (k := 4) rfl
      have hgr : Hid (GrAt wr.drew M (M + 1) (fun g => g < M ∨ g ∈ Ds) E) := hid (hnw.gr.keep (Kept.drew (fun _ => True) wr) trivial (fun g hg => (hg trivial).elim))
      have hlenE := hid hnw.len
      have h00 := H24.start wr M E
      have h01 := H24.one wr M E
      have hCl := H24.cls wr M E
      clear hE hnw hlow hnd hmk hI hall
      gi_wp2_with fail
      refine Z.eff_tailIn 9 [(5, some 119), (6, some 120)] (H24 wr M E) (fun f _ u => f = 95 ∨ u = .func (.func 136) #[] #[.pointer (some ⟨wr.heap.size, 0, none⟩)]) (by kernel_rfl) (C.WideF.wide _ _) (by kernel_rfl) (by kernel_rfl) (by kernel_rfl) rfl h00 ?_
      simp only [List.take_succ_cons, List.take_zero, List.drop_succ_cons, List.drop_zero]
      iterate 5 (refine Z.gk_step hCl (by kernel_rfl) (C.wit0 h00 (by kernel_rfl)) (fun K hK => ?_); go_simp; refine ⟨hK _ ?_⟩; clear hK K)
      refine Z.ge_call (f := 96) (args := #[.map (some M)]) (C.wit0 h00 (by kernel_rfl)) rfl (fun x w' _ _ => by go_simp) ⟨_, .inr rfl⟩ (fun x w' hf hx => ?_) (.inr ⟨0, by kernel_rfl⟩) ?_
      · have q0 : x[0]? = some none := hf.2.1 0 (by kernel_rfl)
        obtain ⟨q1, rfl⟩ := hx.2.1 q0
        obtain rfl := two_none hx.1 q0 q1
        refine (keys99 wr.drew M).mono ?_
        rintro e w'' ⟨rfl, rfl⟩
        exact ⟨_, rfl, .inr rfl, H24.one wr M E⟩
      rintro u hu
      obtain rfl : u = (.func (.func 136) #[] #[.pointer (some ⟨wr.heap.size, 0, none⟩)]) := hu.resolve_left (by decide)
      clear hu
      refine Z.ge_call (f := 95) (args := #[(.func (.func 136) #[] #[.pointer (some ⟨wr.heap.size, 0, none⟩)])]) ⟨_, _, C.fit_at rfl 1 (by kernel_rfl) rfl [0] (by kernel_rfl) (fun m hm p hp => ?_), h01⟩ rfl (fun x w' _ _ => by go_simp) ⟨undef, .inl rfl⟩ (fun x w' hf hx => ?_) (.inr ⟨1, by kernel_rfl⟩) ?_
      · rw [List.mem_singleton] at hm
        subst hm
        obtain rfl : (5, some 119) = p := by simpa using hp
        rfl
      · have q0 : x[0]? = some (some (.func (.func 136) #[] #[.pointer (some ⟨wr.heap.size, 0, none⟩)])) := hf.2.2 0 _ rfl (by kernel_rfl)
        have q1 : x[1]? = some none := hf.2.1 1 (by kernel_rfl)
        obtain rfl := (hx.2.2.1 _ q0).2 q1
        obtain rfl := two_some hx.1 q0 q1
        refine (sorted98 hgr.out hlenE.out).mono ?_
        rintro e w'' ⟨v, ks, rfl, hk, ho, hb⟩
        exact ⟨v, rfl, .inl rfl, H24.two hk ho hb⟩
      rintro v -
      refine Z.gk_step2 hCl [0, 1] (by kernel_rfl) (by kernel_rfl) (by kernel_rfl) (by kernel_rfl) (fun a' hn w' hw' => (hn w' hw').elim) (fun K hK => ?_)
      go_simp
      refine ⟨hK _ ?_⟩
      clear hK K
      refine Z.gk_step2 hCl [0, 1] (by kernel_rfl) (by kernel_rfl) (by kernel_rfl) (by kernel_rfl) (fun a' hn w' hw' => (hn w' hw').elim) (fun K hK => ?_)
      go_simp
      refine ⟨hK _ ?_⟩
      clear hK K
      refine Z.ge_nil ?_
      intro w8 hw8
      obtain ⟨ks, hks, ho⟩ := hw8.2.2.2.1 _ rfl
      have ho : w8.ownsRow (wr.heap.size + 1) 9 1 v ks.length (ks.map .string) := ho
      have hb8 := hw8.2.2.2.2
      obtain ⟨ka, kg, kc, rfl, hka, hkc⟩ : ∃ ka kg kc, v = .slice ka ks.length kc ∧ (ks = [] ∨ ka = some ⟨kg, 0, none⟩) ∧ ∀ i κ, ks[i]? = some κ → w8.cell? ⟨kg, i, none⟩ = some (.string κ) ∧ wr.heap.size + 1 ≤ kg := by
        rcases own_at ho with ⟨h1, h2⟩ | ⟨g', cap', h1, h3, _, h4⟩
        · exact ⟨none, 0, 0, by rw [h1]; exact h2, .inl (List.length_eq_zero_iff.1 h1), fun i κ hi => by rw [List.length_eq_zero_iff.1 h1] at hi; cases hi⟩
        · exact ⟨_, g', cap', h1, .inr rfl, fun i κ hi => ⟨h4 i _ (by rw [List.getElem?_map, hi]; rfl), h3⟩⟩
      have hnw8 : NwAt w8 ⟨M + 2, M + 1, M, M + 1, pa, pc⟩ k (fun g => g < M ∨ g ∈ Ds) E E hv ov := HNW.out.keep (Kept.of_all hb8 (fun _ => True)) (fun _ _ => trivial) (fun q h => .inl h)
      have HNW8 := hid hnw8
      have HO := hid ho
      have HB8 := hid hb8
      have HKS := hid hks
      have tb8 : w8.cell? ⟨M + 2, 0, none⟩ = some (.pointer (some ⟨M + 1, 0, none⟩)) := hnw8.tbk.cell (k := 0) rfl
      have c3 : w8.cell? ⟨M + 1, 3, none⟩ = some (.slice none 0 0) := hnw8.cbk.cell (k := 3) rfl
      have z3 : w8.frozen? ⟨M + 1, 3, none⟩ = false := hnw8.cbk.froz 3
      have kN : Blk w8 N 27 #[.pointer none] := ((hr2.out.keep (Kept.of_below HLOW.out (T := fun q => q < M) (fun _ _ h => h)) (show N < M by omega))).low hb8
      have kN1 : Blk w8 (N + 1) 75 #[.int .i64 0] := ((hr3.out.keep (Kept.of_below HLOW.out (T := fun q => q < M) (fun _ _ h => h)) (show N + 1 < M by omega))).low hb8
      have zN := kN.froz 0
      have zN1 := kN1.froz 0
      have yN : w8.cell? ⟨N, 0, none⟩ = some (.pointer none) := kN.cell (k := 0) rfl
      have yN1 : w8.cell? ⟨N + 1, 0, none⟩ = some (.int .i64 0) := kN1.cell (k := 0) rfl
      have KN := hid kN
      have KN1 := hid kN1
      clear hw8 hks ho hb8 hnw8 kN kN1 h00 h01 hCl tb0 cb4 hgr
      gi_wp2_with fail
      obtain ⟨WF, hWF⟩ : ∃ WF, ((w8.setCell ⟨M + 1, 3, none⟩ (.slice ka ks.length kc)).setCell ⟨N, 0, none⟩ (.pointer (some ⟨M + 1, 0, none⟩))).setCell ⟨N + 1, 0, none⟩ (.int .i64 0) = WF := ⟨_, rfl⟩
      have hKW : Kept (fun q => q ≠ M + 1 ∧ q ≠ N ∧ q ≠ N + 1) w8 WF := by
        rw [← hWF]; exact ((Kept.setCell _ (fun h => h.1 rfl) _).trans (Kept.setCell _ (fun h => h.2.1 rfl) _)).trans (Kept.setCell _ (fun h => h.2.2 rfl) _)
      have kC : Blk WF (M + 1) 107 #[.slice pa k pc, hv, ov, .slice ka ks.length kc, .map (some M)] := by
        rw [← hWF]
        exact ((HNW8.out.cbk.upd 3 _ rfl).keep (Kept.setCell (T := fun q => q ≠ N) _ (p := ⟨N, 0, none⟩) (fun h => h rfl) _) (show M + 1 ≠ N by omega)).keep (Kept.setCell (T := fun q => q ≠ N + 1) _ (p := ⟨N + 1, 0, none⟩) (fun h => h rfl) _) (show M + 1 ≠ N + 1 by omega)
      have kN : Blk WF N 27 #[.pointer (some ⟨M + 1, 0, none⟩)] := by
        rw [← hWF]
        exact ((KN.out.keep (Kept.setCell (T := fun q => q ≠ M + 1) _ (p := ⟨M + 1, 3, none⟩) (fun h => h rfl) _) (show N ≠ M + 1 by omega)).upd 0 _ rfl).keep (Kept.setCell (T := fun q => q ≠ N + 1) _ (p := ⟨N + 1, 0, none⟩) (fun h => h rfl) _) (show N ≠ N + 1 by omega)
      have kN1 : Blk WF (N + 1) 75 #[.int .i64 0] := by
        rw [← hWF]
        exact ((KN1.out.keep (Kept.setCell (T := fun q => q ≠ M + 1) _ (p := ⟨M + 1, 3, none⟩) (fun h => h rfl) _) (show N + 1 ≠ M + 1 by omega)).keep (Kept.setCell (T := fun q => q ≠ N) _ (p := ⟨N, 0, none⟩) (fun h => h rfl) _) (show N + 1 ≠ N by omega)).upd 0 _ rfl
      rw [hWF]
      have hDb : ∀ D ∈ Ds, M + 3 ≤ D ∧ D < wr.heap.size := fun D hD => ⟨(HMK.out D hD).2, at_lt (HMK.out D hD).1⟩
      refine leaves_marks Ds WF HND.out (fun D hD => hKW.obj ((HB8.out.block D (hDb D hD).2).trans (HMK.out D hD).1) ⟨by have := hDb D hD; omega, by have := hDb D hD; omega, by have := hDb D hD; omega⟩) (fun w' hw' => ?_)
      have q0 : w'.cell? ⟨N, 0, none⟩ = some (.pointer (some ⟨M + 1, 0, none⟩)) := (kN.keep hw' (fun h => by have := hDb _ h; omega)).cell (k := 0) rfl
      have q1 : w'.cell? ⟨N + 1, 0, none⟩ = some (.int .i64 0) := (kN1.keep hw' (fun h => by have := hDb _ h; omega)).cell (k := 0) rfl
      have kC' := kC.keep hw' (fun h => by have := hDb _ h; omega)
      refine ⟨.tuple #[.pointer (some ⟨M + 1, 0, none⟩), .int .i64 0], by simp [results, Tryz.results47, go_sem, q0, q1], ?_⟩
      have hT : Kept (fun q => q ≠ M + 1 ∧ q ≠ N ∧ q ≠ N + 1 ∧ q ∉ Ds) w8 w' := (hKW.mono (fun q _ h => ⟨h.1, h.2.1, h.2.2.1⟩)).trans (hw'.mono (fun q _ h => h.2.2.2))
      have hszz := HSZ.out
      have h8 : Below N w w8 := (hB9.out.trans (HLOW.out.mono (by omega))).trans (HB8.out.mono (by omega))
      refine ⟨by rw [← HNN.out]; exact h8.trans (hT.below (by have := h8.size; have := HNN.out; have := HB8.out.size; omega) (fun q hq => ⟨by omega, by omega, by omega, fun h => by have := hDb _ h; omega⟩)), .inr ?_⟩
      have hrow : w'.ownsRow (M + 1) 39 6 hv (E.map (·.h)).length ((E.map (·.h)).flatMap Hw.cl) := by
        rw [← enCl_map, List.length_map]
        refine row_keep HNW8.out.hr hT (fun q hq => ⟨(HNW8.out.hap hq).2.1, ?_, ?_, fun h => HNW8.out.nh q hq (.inr h)⟩)
        · have := (HNW8.out.hr.lt q hq).1; have : M + 1 ≤ q := this; omega
        · have := (HNW8.out.hr.lt q hq).1; have : M + 1 ≤ q := this; omega
      obtain ⟨ha, hg, hc, rfl, hhs⟩ := hs_of_own hrow
      have hps : PsAt w' pa pg rs := by
        have h5 := HPs2.out.keepB HB5 HMM.out
        refine h5.keep (T := fun q => q < M ∧ q ≠ N ∧ q ≠ N + 1) ((Kept.of_below HLOW.out (fun q _ h => h.1)).trans ((Kept.of_all HB8.out _).trans (hT.mono (fun q _ h => ⟨by omega, h.2.1, h.2.2, fun hD => by have := hDb _ hD; omega⟩)))) (fun r hr => ?_) (fun r hr => ?_)
        · have hc0 := (h5.row 0 r hr).1
          have hc2 := (HPs2.out.row 0 r hr).1
          have hlt := World.block_lt_of_cell? w2 _ hc2
          refine ⟨by rw [HMM.out]; exact hlt, fun e => ?_, fun e => ?_⟩
          · have := hr2.out.cell (k := 0) rfl
            rw [e, this] at hc0; simp at hc0
          · have := hr3.out.cell (k := 0) rfl
            rw [e, this] at hc0; simp at hc0
        · obtain ⟨i, hi⟩ := List.getElem?_of_mem hr
          have := (hH.out.row i r hi).2.lt
          rw [← HNN.out] at this
          exact ⟨⟨by omega, by omega, by omega⟩, ⟨by omega, by omega, by omega⟩⟩
      refine ⟨⟨M + 1, pa, pg, pc, ha, hg, hc, ov, ka, kg, kc, M, M + 1⟩, E, ks, rfl, ?_, ?_, kC'.cell (k := 3) rfl, kC'.cell (k := 4) rfl, hps, hhs, hka, fun i κ hi => ?_, ?_, HEE.out, hlenE.out, ?_, HKS.out⟩
      · rw [HLN.out]; exact kC'.cell (k := 0) rfl
      · have := kC'.cell (k := 1) rfl
        rw [List.length_map] at this
        exact this
      · obtain ⟨x1, x2⟩ := hkc i κ hi
        exact hT.cell x1 ⟨by show kg ≠ _; omega, by show kg ≠ _; omega, by show kg ≠ _; omega, fun h => by have h' : kg ∈ Ds := h; have := hDb _ h'; omega⟩
      · refine (HNW8.out.gr.keep hT ⟨by show M ≠ M + 1; omega, by show M ≠ N; omega, by show M ≠ N + 1; omega, fun h => by have h' : M ∈ Ds := h; have := hDb _ h'; omega⟩ (fun q hq => ?_)).reno (fun q hq => hq.elim)
        by_cases e1 : q = M + 1
        · subst e1
          refine .inr ?_
          rintro ⟨_, _, c, hc⟩
          have := HNW8.out.cbk
          unfold Blk at this
          rw [hc] at this
          simp at this
        · refine .inl ?_
          by_cases e2 : q ∈ Ds
          · exact .inr e2
          · refine .inl ?_
            by_cases e3 : q = N
            · omega
            · by_cases e4 : q = N + 1
              · omega
              · exact (hq ⟨e1, e3, e4, e2⟩).elim
      · rw [HLN.out]; omega
end Go.Proofs.YteodfondjogmoaaGreatDoor
