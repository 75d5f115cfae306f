/-
  NodeNames: the closed calls, reckoned by the evaluator: the table of crc.
-/
import Derived.Test.YtkiakphfgdkdiaaGreatEvYD
import Derived.Test.YtkiakphfgdkdiaaGreatRows
namespace Go.Proofs.YtkiakphfgdkdiaaGreat
open Go Go.RowKit
set_option linter.unusedVariables false
set_option maxRecDepth 100000

def u32Of (v : Value) : Option Nat := match v with
  | .int .u32 (.ofNat a) => some a
  | _ => none
theorem u32Of_some {v : Value} {a : Nat} (h : u32Of v = some a) : v = .int .u32 (.ofNat a) := by
  cases v <;> try (cases h; done)
  rename_i k n
  cases k <;> try (cases h; done)
  cases n <;> first
    | (cases h; rfl)
    | (cases h; done)
def eqVals : List Value → List Value → Bool
  | [], [] => true
  | v :: vs, u :: us => match u32Of v, u32Of u with
    | some a, some b => match Nat.beq a b with
      | true => eqVals vs us
      | false => false
    | _, _ => false
  | _, _ => false
theorem eqVals_ok : ∀ {vs us : List Value}, eqVals vs us = true → vs = us
  | [], [], _ => rfl
  | [], u :: us, h => by cases h
  | v :: vs, [], h => by cases h
  | v :: vs, u :: us, h => by
    unfold eqVals at h
    cases h1 : u32Of v with
    | none => rw [h1] at h; cases h
    | some a =>
      rw [h1] at h
      cases h2 : u32Of u with
      | none => rw [h2] at h; cases h
      | some b =>
        rw [h2] at h
        dsimp only at h
        cases h3 : Nat.beq a b with
        | false => rw [h3] at h; cases h
        | true =>
          rw [h3] at h
          rw [u32Of_some h1, u32Of_some h2, Nat.eq_of_beq_eq_true h3, eqVals_ok h]
def okT (t : List Value) (o : Ans) : Bool := match o with
  | some (.agg ⟨cs⟩, _) => eqVals cs t
  | _ => false
theorem of_okT {t : List Value} {o : Ans} (h : okT t o = true) : ∃ s, o = some (.agg ⟨t⟩, s) := by
  cases o with
  | none => cases h
  | some p =>
    obtain ⟨v, s⟩ := p
    cases v <;> try (cases h; done)
    rename_i cs
    have h : eqVals cs.toList t = true := h
    exact ⟨s, by rw [← eqVals_ok h]⟩
def okB (o : Ans) : Bool := match o with
  | some (.bool true, _) => true
  | _ => false
theorem of_okB {o : Ans} (h : okB o = true) : ∃ s, o = some (.bool true, s) := by
  cases o with
  | none => cases h
  | some p =>
    obtain ⟨v, s⟩ := p
    cases v <;> try (cases h; done)
    rename_i b
    cases b
    · cases h
    · exact ⟨s, rfl⟩
def crcL : List Value := [
  .int .u32 (.ofNat 0), .int .u32 (.ofNat 1996959894), .int .u32 (.ofNat 3993919788), .int .u32 (.ofNat 2567524794), .int .u32 (.ofNat 124634137), .int .u32 (.ofNat 1886057615), .int .u32 (.ofNat 3915621685), .int .u32 (.ofNat 2657392035),
  .int .u32 (.ofNat 249268274), .int .u32 (.ofNat 2044508324), .int .u32 (.ofNat 3772115230), .int .u32 (.ofNat 2547177864), .int .u32 (.ofNat 162941995), .int .u32 (.ofNat 2125561021), .int .u32 (.ofNat 3887607047), .int .u32 (.ofNat 2428444049),
  .int .u32 (.ofNat 498536548), .int .u32 (.ofNat 1789927666), .int .u32 (.ofNat 4089016648), .int .u32 (.ofNat 2227061214), .int .u32 (.ofNat 450548861), .int .u32 (.ofNat 1843258603), .int .u32 (.ofNat 4107580753), .int .u32 (.ofNat 2211677639),
  .int .u32 (.ofNat 325883990), .int .u32 (.ofNat 1684777152), .int .u32 (.ofNat 4251122042), .int .u32 (.ofNat 2321926636), .int .u32 (.ofNat 335633487), .int .u32 (.ofNat 1661365465), .int .u32 (.ofNat 4195302755), .int .u32 (.ofNat 2366115317),
  .int .u32 (.ofNat 997073096), .int .u32 (.ofNat 1281953886), .int .u32 (.ofNat 3579855332), .int .u32 (.ofNat 2724688242), .int .u32 (.ofNat 1006888145), .int .u32 (.ofNat 1258607687), .int .u32 (.ofNat 3524101629), .int .u32 (.ofNat 2768942443),
  .int .u32 (.ofNat 901097722), .int .u32 (.ofNat 1119000684), .int .u32 (.ofNat 3686517206), .int .u32 (.ofNat 2898065728), .int .u32 (.ofNat 853044451), .int .u32 (.ofNat 1172266101), .int .u32 (.ofNat 3705015759), .int .u32 (.ofNat 2882616665),
  .int .u32 (.ofNat 651767980), .int .u32 (.ofNat 1373503546), .int .u32 (.ofNat 3369554304), .int .u32 (.ofNat 3218104598), .int .u32 (.ofNat 565507253), .int .u32 (.ofNat 1454621731), .int .u32 (.ofNat 3485111705), .int .u32 (.ofNat 3099436303),
  .int .u32 (.ofNat 671266974), .int .u32 (.ofNat 1594198024), .int .u32 (.ofNat 3322730930), .int .u32 (.ofNat 2970347812), .int .u32 (.ofNat 795835527), .int .u32 (.ofNat 1483230225), .int .u32 (.ofNat 3244367275), .int .u32 (.ofNat 3060149565),
  .int .u32 (.ofNat 1994146192), .int .u32 (.ofNat 31158534), .int .u32 (.ofNat 2563907772), .int .u32 (.ofNat 4023717930), .int .u32 (.ofNat 1907459465), .int .u32 (.ofNat 112637215), .int .u32 (.ofNat 2680153253), .int .u32 (.ofNat 3904427059),
  .int .u32 (.ofNat 2013776290), .int .u32 (.ofNat 251722036), .int .u32 (.ofNat 2517215374), .int .u32 (.ofNat 3775830040), .int .u32 (.ofNat 2137656763), .int .u32 (.ofNat 141376813), .int .u32 (.ofNat 2439277719), .int .u32 (.ofNat 3865271297),
  .int .u32 (.ofNat 1802195444), .int .u32 (.ofNat 476864866), .int .u32 (.ofNat 2238001368), .int .u32 (.ofNat 4066508878), .int .u32 (.ofNat 1812370925), .int .u32 (.ofNat 453092731), .int .u32 (.ofNat 2181625025), .int .u32 (.ofNat 4111451223),
  .int .u32 (.ofNat 1706088902), .int .u32 (.ofNat 314042704), .int .u32 (.ofNat 2344532202), .int .u32 (.ofNat 4240017532), .int .u32 (.ofNat 1658658271), .int .u32 (.ofNat 366619977), .int .u32 (.ofNat 2362670323), .int .u32 (.ofNat 4224994405),
  .int .u32 (.ofNat 1303535960), .int .u32 (.ofNat 984961486), .int .u32 (.ofNat 2747007092), .int .u32 (.ofNat 3569037538), .int .u32 (.ofNat 1256170817), .int .u32 (.ofNat 1037604311), .int .u32 (.ofNat 2765210733), .int .u32 (.ofNat 3554079995),
  .int .u32 (.ofNat 1131014506), .int .u32 (.ofNat 879679996), .int .u32 (.ofNat 2909243462), .int .u32 (.ofNat 3663771856), .int .u32 (.ofNat 1141124467), .int .u32 (.ofNat 855842277), .int .u32 (.ofNat 2852801631), .int .u32 (.ofNat 3708648649),
  .int .u32 (.ofNat 1342533948), .int .u32 (.ofNat 654459306), .int .u32 (.ofNat 3188396048), .int .u32 (.ofNat 3373015174), .int .u32 (.ofNat 1466479909), .int .u32 (.ofNat 544179635), .int .u32 (.ofNat 3110523913), .int .u32 (.ofNat 3462522015),
  .int .u32 (.ofNat 1591671054), .int .u32 (.ofNat 702138776), .int .u32 (.ofNat 2966460450), .int .u32 (.ofNat 3352799412), .int .u32 (.ofNat 1504918807), .int .u32 (.ofNat 783551873), .int .u32 (.ofNat 3082640443), .int .u32 (.ofNat 3233442989),
  .int .u32 (.ofNat 3988292384), .int .u32 (.ofNat 2596254646), .int .u32 (.ofNat 62317068), .int .u32 (.ofNat 1957810842), .int .u32 (.ofNat 3939845945), .int .u32 (.ofNat 2647816111), .int .u32 (.ofNat 81470997), .int .u32 (.ofNat 1943803523),
  .int .u32 (.ofNat 3814918930), .int .u32 (.ofNat 2489596804), .int .u32 (.ofNat 225274430), .int .u32 (.ofNat 2053790376), .int .u32 (.ofNat 3826175755), .int .u32 (.ofNat 2466906013), .int .u32 (.ofNat 167816743), .int .u32 (.ofNat 2097651377),
  .int .u32 (.ofNat 4027552580), .int .u32 (.ofNat 2265490386), .int .u32 (.ofNat 503444072), .int .u32 (.ofNat 1762050814), .int .u32 (.ofNat 4150417245), .int .u32 (.ofNat 2154129355), .int .u32 (.ofNat 426522225), .int .u32 (.ofNat 1852507879),
  .int .u32 (.ofNat 4275313526), .int .u32 (.ofNat 2312317920), .int .u32 (.ofNat 282753626), .int .u32 (.ofNat 1742555852), .int .u32 (.ofNat 4189708143), .int .u32 (.ofNat 2394877945), .int .u32 (.ofNat 397917763), .int .u32 (.ofNat 1622183637),
  .int .u32 (.ofNat 3604390888), .int .u32 (.ofNat 2714866558), .int .u32 (.ofNat 953729732), .int .u32 (.ofNat 1340076626), .int .u32 (.ofNat 3518719985), .int .u32 (.ofNat 2797360999), .int .u32 (.ofNat 1068828381), .int .u32 (.ofNat 1219638859),
  .int .u32 (.ofNat 3624741850), .int .u32 (.ofNat 2936675148), .int .u32 (.ofNat 906185462), .int .u32 (.ofNat 1090812512), .int .u32 (.ofNat 3747672003), .int .u32 (.ofNat 2825379669), .int .u32 (.ofNat 829329135), .int .u32 (.ofNat 1181335161),
  .int .u32 (.ofNat 3412177804), .int .u32 (.ofNat 3160834842), .int .u32 (.ofNat 628085408), .int .u32 (.ofNat 1382605366), .int .u32 (.ofNat 3423369109), .int .u32 (.ofNat 3138078467), .int .u32 (.ofNat 570562233), .int .u32 (.ofNat 1426400815),
  .int .u32 (.ofNat 3317316542), .int .u32 (.ofNat 2998733608), .int .u32 (.ofNat 733239954), .int .u32 (.ofNat 1555261956), .int .u32 (.ofNat 3268935591), .int .u32 (.ofNat 3050360625), .int .u32 (.ofNat 752459403), .int .u32 (.ofNat 1541320221),
  .int .u32 (.ofNat 2607071920), .int .u32 (.ofNat 3965973030), .int .u32 (.ofNat 1969922972), .int .u32 (.ofNat 40735498), .int .u32 (.ofNat 2617837225), .int .u32 (.ofNat 3943577151), .int .u32 (.ofNat 1913087877), .int .u32 (.ofNat 83908371),
  .int .u32 (.ofNat 2512341634), .int .u32 (.ofNat 3803740692), .int .u32 (.ofNat 2075208622), .int .u32 (.ofNat 213261112), .int .u32 (.ofNat 2463272603), .int .u32 (.ofNat 3855990285), .int .u32 (.ofNat 2094854071), .int .u32 (.ofNat 198958881),
  .int .u32 (.ofNat 2262029012), .int .u32 (.ofNat 4057260610), .int .u32 (.ofNat 1759359992), .int .u32 (.ofNat 534414190), .int .u32 (.ofNat 2176718541), .int .u32 (.ofNat 4139329115), .int .u32 (.ofNat 1873836001), .int .u32 (.ofNat 414664567),
  .int .u32 (.ofNat 2282248934), .int .u32 (.ofNat 4279200368), .int .u32 (.ofNat 1711684554), .int .u32 (.ofNat 285281116), .int .u32 (.ofNat 2405801727), .int .u32 (.ofNat 4167216745), .int .u32 (.ofNat 1634467795), .int .u32 (.ofNat 376229701),
  .int .u32 (.ofNat 2685067896), .int .u32 (.ofNat 3608007406), .int .u32 (.ofNat 1308918612), .int .u32 (.ofNat 956543938), .int .u32 (.ofNat 2808555105), .int .u32 (.ofNat 3495958263), .int .u32 (.ofNat 1231636301), .int .u32 (.ofNat 1047427035),
  .int .u32 (.ofNat 2932959818), .int .u32 (.ofNat 3654703836), .int .u32 (.ofNat 1088359270), .int .u32 (.ofNat 936918000), .int .u32 (.ofNat 2847714899), .int .u32 (.ofNat 3736837829), .int .u32 (.ofNat 1202900863), .int .u32 (.ofNat 817233897),
  .int .u32 (.ofNat 3183342108), .int .u32 (.ofNat 3401237130), .int .u32 (.ofNat 1404277552), .int .u32 (.ofNat 615818150), .int .u32 (.ofNat 3134207493), .int .u32 (.ofNat 3453421203), .int .u32 (.ofNat 1423857449), .int .u32 (.ofNat 601450431),
  .int .u32 (.ofNat 3009837614), .int .u32 (.ofNat 3294710456), .int .u32 (.ofNat 1567103746), .int .u32 (.ofNat 711928724), .int .u32 (.ofNat 3020668471), .int .u32 (.ofNat 3272380065), .int .u32 (.ofNat 1510334235), .int .u32 (.ofNat 755167117)]
def crcV : Value := .agg ⟨crcL⟩
theorem crcV_plain : plainD 8 crcV = true := by kernel_rfl
theorem noGoB : (Tryz.prog.funcs.toList.all fun fn => !(fn.name == "runtime.NumGoroutine")) = true := by kernel_rfl
theorem noGo : NoGo Tryz.prog := by
  intro f fn h
  have h1 : fn ∈ Tryz.prog.funcs.toList := by
    have : Tryz.prog.funcs.toList[f]? = some fn := by simpa using h
    exact List.mem_of_getElem? this
  have h2 := List.all_eq_true.1 noGoB fn h1
  simpa using h2
theorem mixes : Tryz.prog.follows .mixedOrders = true := by kernel_rfl
theorem table_ev : ∃ s, evCallF Tryz.prog [] 1000 247 [] = some (crcV, s) := of_okT (by kernel_rfl)
theorem knownT : Known Tryz.prog [(247, crcV)] := by
  obtain ⟨s, h⟩ := table_ev
  obtain ⟨s', h⟩ := evCallF_ok noGo h
  exact known_cons mixes known_nil h crcV_plain ⟨_, Tryz.func247, by kernel_rfl, noGo _ _ Tryz.func247⟩
theorem wideW : Wide Fence.wide := ⟨fun _ => trivial, rfl⟩
end Go.Proofs.YtkiakphfgdkdiaaGreat
