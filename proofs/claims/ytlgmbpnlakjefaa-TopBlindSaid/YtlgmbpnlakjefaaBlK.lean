/- What the kernel is asked of each function's row. Written by a program of this session's own (genk.py). -/
import Derived.Test.YtlgmbpnlakjefaaSyY
import Derived.Test.YtlgmbpnlakjefaaSyZ
namespace Go.Proofs.Ytlgmbpnlakjefaa
open Go.Sy
set_option maxRecDepth 10000
theorem k101 : fnChk Try.prog 101 (Try.f101.body.getD .skip) Try.f101.ntmps Try.f101.results.toList := ⟨Try.f101, by kernel_rfl, rfl, rfl, rfl, by decide⟩
theorem o101 : codeOk (Try.f101.body.getD .skip) = true := by kernel_rfl
theorem k29 : fnChk Try.prog 29 (Try.f29.body.getD .skip) Try.f29.ntmps Try.f29.results.toList := ⟨Try.f29, by kernel_rfl, rfl, rfl, rfl, by decide⟩
theorem o29 : codeOk (Try.f29.body.getD .skip) = true := by kernel_rfl
theorem k128 : fnChk Try.prog 128 (Try.f128.body.getD .skip) Try.f128.ntmps Try.f128.results.toList := ⟨Try.f128, by kernel_rfl, rfl, rfl, rfl, by decide⟩
theorem o128 : codeOk (Try.f128.body.getD .skip) = true := by kernel_rfl
theorem k104 : fnChk Try.prog 104 (Try.f104.body.getD .skip) Try.f104.ntmps Try.f104.results.toList := ⟨Try.f104, by kernel_rfl, rfl, rfl, rfl, by decide⟩
theorem o104 : codeOk (Try.f104.body.getD .skip) = true := by kernel_rfl
theorem k105 : fnChk Try.prog 105 (Try.f105.body.getD .skip) Try.f105.ntmps Try.f105.results.toList := ⟨Try.f105, by kernel_rfl, rfl, rfl, rfl, by decide⟩
theorem o105 : codeOk (Try.f105.body.getD .skip) = true := by kernel_rfl
theorem k113 : fnChk Try.prog 113 (Try.f113.body.getD .skip) Try.f113.ntmps Try.f113.results.toList := ⟨Try.f113, by kernel_rfl, rfl, rfl, rfl, by decide⟩
theorem o113 : codeOk (Try.f113.body.getD .skip) = true := by kernel_rfl
theorem k103 : fnChk Try.prog 103 (Try.f103.body.getD .skip) Try.f103.ntmps Try.f103.results.toList := ⟨Try.f103, by kernel_rfl, rfl, rfl, rfl, by decide⟩
theorem o103 : codeOk (Try.f103.body.getD .skip) = true := by kernel_rfl
theorem k106 : fnChk Try.prog 106 (Try.f106.body.getD .skip) Try.f106.ntmps Try.f106.results.toList := ⟨Try.f106, by kernel_rfl, rfl, rfl, rfl, by decide⟩
theorem o106 : codeOk (Try.f106.body.getD .skip) = true := by kernel_rfl
theorem k129 : fnChk Try.prog 129 (Try.f129.body.getD .skip) Try.f129.ntmps Try.f129.results.toList := ⟨Try.f129, by kernel_rfl, rfl, rfl, rfl, by decide⟩
theorem o129 : codeOk (Try.f129.body.getD .skip) = true := by kernel_rfl
theorem k130 : fnChk Try.prog 130 (Try.f130.body.getD .skip) Try.f130.ntmps Try.f130.results.toList := ⟨Try.f130, by kernel_rfl, rfl, rfl, rfl, by decide⟩
theorem o130 : codeOk (Try.f130.body.getD .skip) = true := by kernel_rfl
theorem k108 : fnChk Try.prog 108 (Try.f108.body.getD .skip) Try.f108.ntmps Try.f108.results.toList := ⟨Try.f108, by kernel_rfl, rfl, rfl, rfl, by decide⟩
theorem o108 : codeOk (Try.f108.body.getD .skip) = true := by kernel_rfl
theorem k109 : fnChk Try.prog 109 (Try.f109.body.getD .skip) Try.f109.ntmps Try.f109.results.toList := ⟨Try.f109, by kernel_rfl, rfl, rfl, rfl, by decide⟩
theorem o109 : codeOk (Try.f109.body.getD .skip) = true := by kernel_rfl
theorem k107 : fnChk Try.prog 107 (Try.f107.body.getD .skip) Try.f107.ntmps Try.f107.results.toList := ⟨Try.f107, by kernel_rfl, rfl, rfl, rfl, by decide⟩
theorem o107 : codeOk (Try.f107.body.getD .skip) = true := by kernel_rfl
theorem k110 : fnChk Try.prog 110 (Try.f110.body.getD .skip) Try.f110.ntmps Try.f110.results.toList := ⟨Try.f110, by kernel_rfl, rfl, rfl, rfl, by decide⟩
theorem o110 : codeOk (Try.f110.body.getD .skip) = true := by kernel_rfl
theorem k74 : fnChk Try.prog 74 (Try.f74.body.getD .skip) Try.f74.ntmps Try.f74.results.toList := ⟨Try.f74, by kernel_rfl, rfl, rfl, rfl, by decide⟩
theorem o74 : codeOk (Try.f74.body.getD .skip) = true := by kernel_rfl
theorem k72 : fnChk Try.prog 72 (Try.f72.body.getD .skip) Try.f72.ntmps Try.f72.results.toList := ⟨Try.f72, by kernel_rfl, rfl, rfl, rfl, by decide⟩
theorem o72 : codeOk (Try.f72.body.getD .skip) = true := by kernel_rfl
theorem k73 : fnChk Try.prog 73 (Try.f73.body.getD .skip) Try.f73.ntmps Try.f73.results.toList := ⟨Try.f73, by kernel_rfl, rfl, rfl, rfl, by decide⟩
theorem o73 : codeOk (Try.f73.body.getD .skip) = true := by kernel_rfl
theorem k36 : fnChk Try.prog 36 (Try.f36.body.getD .skip) Try.f36.ntmps Try.f36.results.toList := ⟨Try.f36, by kernel_rfl, rfl, rfl, rfl, by decide⟩
theorem o36 : codeOk (Try.f36.body.getD .skip) = true := by kernel_rfl
theorem k111 : fnChk Try.prog 111 (Try.f111.body.getD .skip) Try.f111.ntmps Try.f111.results.toList := ⟨Try.f111, by kernel_rfl, rfl, rfl, rfl, by decide⟩
theorem o111 : codeOk (Try.f111.body.getD .skip) = true := by kernel_rfl
theorem k112 : fnChk Try.prog 112 (Try.f112.body.getD .skip) Try.f112.ntmps Try.f112.results.toList := ⟨Try.f112, by kernel_rfl, rfl, rfl, rfl, by decide⟩
theorem o112 : codeOk (Try.f112.body.getD .skip) = true := by kernel_rfl
theorem k75 : fnChk Try.prog 75 (Try.f75.body.getD .skip) Try.f75.ntmps Try.f75.results.toList := ⟨Try.f75, by kernel_rfl, rfl, rfl, rfl, by decide⟩
theorem o75 : codeOk (Try.f75.body.getD .skip) = true := by kernel_rfl
theorem k37 : fnChk Try.prog 37 (Try.f37.body.getD .skip) Try.f37.ntmps Try.f37.results.toList := ⟨Try.f37, by kernel_rfl, rfl, rfl, rfl, by decide⟩
theorem o37 : codeOk (Try.f37.body.getD .skip) = true := by kernel_rfl
theorem k64 : fnChk Try.prog 64 (Try.f64.body.getD .skip) Try.f64.ntmps Try.f64.results.toList := ⟨Try.f64, by kernel_rfl, rfl, rfl, rfl, by decide⟩
theorem o64 : codeOk (Try.f64.body.getD .skip) = true := by kernel_rfl
theorem k66 : fnChk Try.prog 66 (Try.f66.body.getD .skip) Try.f66.ntmps Try.f66.results.toList := ⟨Try.f66, by kernel_rfl, rfl, rfl, rfl, by decide⟩
theorem o66 : codeOk (Try.f66.body.getD .skip) = true := by kernel_rfl
theorem k70 : fnChk Try.prog 70 (Try.f70.body.getD .skip) Try.f70.ntmps Try.f70.results.toList := ⟨Try.f70, by kernel_rfl, rfl, rfl, rfl, by decide⟩
theorem o70 : codeOk (Try.f70.body.getD .skip) = true := by kernel_rfl
theorem k67 : fnChk Try.prog 67 (Try.f67.body.getD .skip) Try.f67.ntmps Try.f67.results.toList := ⟨Try.f67, by kernel_rfl, rfl, rfl, rfl, by decide⟩
theorem o67 : codeOk (Try.f67.body.getD .skip) = true := by kernel_rfl
theorem k65 : fnChk Try.prog 65 (Try.f65.body.getD .skip) Try.f65.ntmps Try.f65.results.toList := ⟨Try.f65, by kernel_rfl, rfl, rfl, rfl, by decide⟩
theorem o65 : codeOk (Try.f65.body.getD .skip) = true := by kernel_rfl
theorem k102 : fnChk Try.prog 102 (Try.f102.body.getD .skip) Try.f102.ntmps Try.f102.results.toList := ⟨Try.f102, by kernel_rfl, rfl, rfl, rfl, by decide⟩
theorem o102 : codeOk (Try.f102.body.getD .skip) = true := by kernel_rfl
theorem k68 : fnChk Try.prog 68 (Try.f68.body.getD .skip) Try.f68.ntmps Try.f68.results.toList := ⟨Try.f68, by kernel_rfl, rfl, rfl, rfl, by decide⟩
theorem o68 : codeOk (Try.f68.body.getD .skip) = true := by kernel_rfl
theorem k69 : fnChk Try.prog 69 (Try.f69.body.getD .skip) Try.f69.ntmps Try.f69.results.toList := ⟨Try.f69, by kernel_rfl, rfl, rfl, rfl, by decide⟩
theorem o69 : codeOk (Try.f69.body.getD .skip) = true := by kernel_rfl
theorem k71 : fnChk Try.prog 71 (Try.f71.body.getD .skip) Try.f71.ntmps Try.f71.results.toList := ⟨Try.f71, by kernel_rfl, rfl, rfl, rfl, by decide⟩
theorem o71 : codeOk (Try.f71.body.getD .skip) = true := by kernel_rfl
theorem k32 : fnChk Try.prog 32 (Try.f32.body.getD .skip) Try.f32.ntmps Try.f32.results.toList := ⟨Try.f32, by kernel_rfl, rfl, rfl, rfl, by decide⟩
theorem o32 : codeOk (Try.f32.body.getD .skip) = true := by kernel_rfl
theorem k31 : fnChk Try.prog 31 (Try.f31.body.getD .skip) Try.f31.ntmps Try.f31.results.toList := ⟨Try.f31, by kernel_rfl, rfl, rfl, rfl, by decide⟩
theorem o31 : codeOk (Try.f31.body.getD .skip) = true := by kernel_rfl
theorem k8 : fnChk Try.prog 8 (Try.f8.body.getD .skip) Try.f8.ntmps Try.f8.results.toList := ⟨Try.f8, by kernel_rfl, rfl, rfl, rfl, by decide⟩
theorem o8 : codeOk (Try.f8.body.getD .skip) = true := by kernel_rfl
theorem k25 : fnChk Try.prog 25 (Try.f25.body.getD .skip) Try.f25.ntmps Try.f25.results.toList := ⟨Try.f25, by kernel_rfl, rfl, rfl, rfl, by decide⟩
theorem o25 : codeOk (Try.f25.body.getD .skip) = true := by kernel_rfl
theorem k33 : fnChk Try.prog 33 (Try.f33.body.getD .skip) Try.f33.ntmps Try.f33.results.toList := ⟨Try.f33, by kernel_rfl, rfl, rfl, rfl, by decide⟩
theorem o33 : codeOk (Try.f33.body.getD .skip) = true := by kernel_rfl
theorem k34 : fnChk Try.prog 34 (Try.f34.body.getD .skip) Try.f34.ntmps Try.f34.results.toList := ⟨Try.f34, by kernel_rfl, rfl, rfl, rfl, by decide⟩
theorem o34 : codeOk (Try.f34.body.getD .skip) = true := by kernel_rfl
theorem k35 : fnChk Try.prog 35 (Try.f35.body.getD .skip) Try.f35.ntmps Try.f35.results.toList := ⟨Try.f35, by kernel_rfl, rfl, rfl, rfl, by decide⟩
theorem o35 : codeOk (Try.f35.body.getD .skip) = true := by kernel_rfl
theorem k9 : fnChk Try.prog 9 (Try.f9.body.getD .skip) Try.f9.ntmps Try.f9.results.toList := ⟨Try.f9, by kernel_rfl, rfl, rfl, rfl, by decide⟩
theorem o9 : codeOk (Try.f9.body.getD .skip) = true := by kernel_rfl
theorem k10 : fnChk Try.prog 10 (Try.f10.body.getD .skip) Try.f10.ntmps Try.f10.results.toList := ⟨Try.f10, by kernel_rfl, rfl, rfl, rfl, by decide⟩
theorem o10 : codeOk (Try.f10.body.getD .skip) = true := by kernel_rfl
theorem k26 : fnChk Try.prog 26 (Try.f26.body.getD .skip) Try.f26.ntmps Try.f26.results.toList := ⟨Try.f26, by kernel_rfl, rfl, rfl, rfl, by decide⟩
theorem o26 : codeOk (Try.f26.body.getD .skip) = true := by kernel_rfl
theorem k27 : fnChk Try.prog 27 (Try.f27.body.getD .skip) Try.f27.ntmps Try.f27.results.toList := ⟨Try.f27, by kernel_rfl, rfl, rfl, rfl, by decide⟩
theorem o27 : codeOk (Try.f27.body.getD .skip) = true := by kernel_rfl
theorem k28 : fnChk Try.prog 28 (Try.f28.body.getD .skip) Try.f28.ntmps Try.f28.results.toList := ⟨Try.f28, by kernel_rfl, rfl, rfl, rfl, by decide⟩
theorem o28 : codeOk (Try.f28.body.getD .skip) = true := by kernel_rfl
theorem k30 : fnChk Try.prog 30 (Try.f30.body.getD .skip) Try.f30.ntmps Try.f30.results.toList := ⟨Try.f30, by kernel_rfl, rfl, rfl, rfl, by decide⟩
theorem o30 : codeOk (Try.f30.body.getD .skip) = true := by kernel_rfl
theorem k7 : fnChk Try.prog 7 (Try.f7.body.getD .skip) Try.f7.ntmps Try.f7.results.toList := ⟨Try.f7, by kernel_rfl, rfl, rfl, rfl, by decide⟩
theorem o7 : codeOk (Try.f7.body.getD .skip) = true := by kernel_rfl
theorem k6 : fnChk Try.prog 6 (Try.f6.body.getD .skip) Try.f6.ntmps Try.f6.results.toList := ⟨Try.f6, by kernel_rfl, rfl, rfl, rfl, by decide⟩
theorem o6 : codeOk (Try.f6.body.getD .skip) = true := by kernel_rfl
theorem k76 : fnChk Try.prog 76 (Try.f76.body.getD .skip) Try.f76.ntmps Try.f76.results.toList := ⟨Try.f76, by kernel_rfl, rfl, rfl, rfl, by decide⟩
theorem o76 : codeOk (Try.f76.body.getD .skip) = true := by kernel_rfl
theorem k38 : fnChk Try.prog 38 (Try.f38.body.getD .skip) Try.f38.ntmps Try.f38.results.toList := ⟨Try.f38, by kernel_rfl, rfl, rfl, rfl, by decide⟩
theorem o38 : codeOk (Try.f38.body.getD .skip) = true := by kernel_rfl
theorem k39 : fnChk Try.prog 39 (Try.f39.body.getD .skip) Try.f39.ntmps Try.f39.results.toList := ⟨Try.f39, by kernel_rfl, rfl, rfl, rfl, by decide⟩
theorem o39 : codeOk (Try.f39.body.getD .skip) = true := by kernel_rfl
theorem k40 : fnChk Try.prog 40 (Try.f40.body.getD .skip) Try.f40.ntmps Try.f40.results.toList := ⟨Try.f40, by kernel_rfl, rfl, rfl, rfl, by decide⟩
theorem o40 : codeOk (Try.f40.body.getD .skip) = true := by kernel_rfl
theorem k41 : fnChk Try.prog 41 (Try.f41.body.getD .skip) Try.f41.ntmps Try.f41.results.toList := ⟨Try.f41, by kernel_rfl, rfl, rfl, rfl, by decide⟩
theorem o41 : codeOk (Try.f41.body.getD .skip) = true := by kernel_rfl
theorem k78 : fnChk Try.prog 78 (Try.f78.body.getD .skip) Try.f78.ntmps Try.f78.results.toList := ⟨Try.f78, by kernel_rfl, rfl, rfl, rfl, by decide⟩
theorem o78 : codeOk (Try.f78.body.getD .skip) = true := by kernel_rfl
theorem k114 : fnChk Try.prog 114 (Try.f114.body.getD .skip) Try.f114.ntmps Try.f114.results.toList := ⟨Try.f114, by kernel_rfl, rfl, rfl, rfl, by decide⟩
theorem o114 : codeOk (Try.f114.body.getD .skip) = true := by kernel_rfl
theorem k77 : fnChk Try.prog 77 (Try.f77.body.getD .skip) Try.f77.ntmps Try.f77.results.toList := ⟨Try.f77, by kernel_rfl, rfl, rfl, rfl, by decide⟩
theorem o77 : codeOk (Try.f77.body.getD .skip) = true := by kernel_rfl
theorem k11 : fnChk Try.prog 11 (Try.f11.body.getD .skip) Try.f11.ntmps Try.f11.results.toList := ⟨Try.f11, by kernel_rfl, rfl, rfl, rfl, by decide⟩
theorem o11 : codeOk (Try.f11.body.getD .skip) = true := by kernel_rfl
theorem k5 : fnChk Try.prog 5 (Try.f5.body.getD .skip) Try.f5.ntmps Try.f5.results.toList := ⟨Try.f5, by kernel_rfl, rfl, rfl, rfl, by decide⟩
theorem o5 : codeOk (Try.f5.body.getD .skip) = true := by kernel_rfl
theorem k3 : fnChk Try.prog 3 (Try.f3.body.getD .skip) Try.f3.ntmps Try.f3.results.toList := ⟨Try.f3, by kernel_rfl, rfl, rfl, rfl, by decide⟩
theorem o3 : codeOk (Try.f3.body.getD .skip) = true := by kernel_rfl
end Go.Proofs.Ytlgmbpnlakjefaa
